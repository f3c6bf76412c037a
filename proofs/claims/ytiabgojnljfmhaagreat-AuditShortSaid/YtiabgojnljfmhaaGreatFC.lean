/-
  SUPERBLOCKS: package super. No condition beyond each statement's own.
-/
import Derived.Test.YtiabgojnljfmhaaGreatFB
namespace Go.Proofs.YtiabgojnljfmhaaGreat.Ov.W

def word8 : List Int := [111, 118, 101, 114, 100, 117, 98, 49]
/-- A superblock's sector. -/
def packS (g l d r c : Int) : List Int := secOf (word8 ++ (leB 4 g ++ (leB 4 l ++ (leB 4 d ++ (leB 4 r ++ leB 4 c)))))
theorem packS_byte (g l d r c : Int) : ∀ x ∈ packS g l d r c, isByte x := by
  refine secOf_byte fun x hx => ?_
  simp only [List.mem_append] at hx
  rcases hx with hx | hx | hx | hx | hx | hx
  · simp only [word8, List.mem_cons, List.not_mem_nil, or_false] at hx
    unfold isByte
    omega
  all_goals exact leB_byte _ _ x hx
def i63 (n : Int) : Prop := 0 ≤ n ∧ n ≤ 9223372036854775807

theorem SPack_spec (h : H) (g l d r c : Int) (hg : i63 g) (hl : i63 l) (hd : i63 d) (hr : i63 r) (hc : i63 c) :
    Fn Pg 47 #[.agg #[.int .i64 g, .int .i64 l, .int .i64 d, .int .i64 r], .int .i64 c] h fun v h' => ∃ b1 c1, v = .slice b1 128 c1 ∧ OwnS h' h.size b1 128 c1 1 ((packS g l d r c).map (.int .u8)) ∧ Only [] h h' := by
  unfold i63 at hg hl hd hr hc
  refine g47 (args := [_, _]) ?_
  refine New.blk (cs := [.int .i64 g, .int .i64 l, .int .i64 d, .int .i64 r]) fun h1 hs1 hb1 ho1 => ?_
  refine Ld.blk hb1 rfl ?_
  refine Ld.blk hb1 rfl ?_
  refine Ld.blk hb1 rfl ?_
  refine Ld.blk hb1 rfl ?_
  have put : ∀ (n : Int) (h' : H), i63 n → Keep h1.size h1 h' → Fn Pg 75 #[.int .i64 n, .int .i64 4] h' fun v h'' => Keep h1.size h' h'' ∧ (SP.nums .u8 (leB 4 n)).p v h'' := fun n h' hn hk =>
    (FPut_spec h' n 4 hn (by omega)).use fun v h'' ⟨b, hv, ho, hon⟩ => ⟨hon.keep hk.sims.size, b, _, _, hv, ho.nums⟩
  refine FreeH.mk [(5, SP.blk h1.size (fun b => .slice (some ⟨b, 0, none⟩) 8 8) (word8.map (.int .u8))), (6, SP.nums .u8 word8), (9, SP.nums .u8 (leB 4 g)), (12, SP.nums .u8 (leB 4 l)), (15, SP.nums .u8 (leB 4 d)), (18, SP.nums .u8 (leB 4 r)), (20, SP.nums .u8 (leB 4 c))]
    ⟨fun h' hk => ?_, fun h' hk => ?_, fun h' hk => put g h' hg hk, fun h' hk => put l h' hl hk, fun h' hk => put d h' hd hk, fun h' hk => put r h' hr hk, fun h' hk => put c h' hc hk, trivial⟩ fun h' hk => ?_
  · refine New.blk (cs := word8.map (.int .u8)) fun h2 hs2 hb2 ho2 => ?_
    exact ⟨ho2.keep hk.sims.size, _, rfl, hk.sims.size, hb2⟩
  · rintro _ ⟨b, rfl, hlo, hb⟩
    refine Mrk.blk (a := ⟨b, 0, none⟩) hb fun h2 hb2 hs2 ho2 _ => ?_
    exact ⟨ho2.keepN hs2 hk.sims.size (by simpa using hlo), _, _, _, rfl, rfl, hb2.row⟩
  · rintro _ ⟨b5, rfl, _, _⟩ _ ⟨b6, n6, c6, rfl, h6⟩ _ ⟨b9, n9, c9, rfl, h9⟩ _ ⟨b12, n12, c12, rfl, h12⟩ _ ⟨b15, n15, c15, rfl, h15⟩ _ ⟨b18, n18, c18, rfl, h18⟩ _ ⟨b20, n20, c20, rfl, h20⟩
    refine New.blk (cs := [.slice b6 n6 c6, .slice b9 n9 c9, .slice b12 n12 c12, .slice b15 n15 c15, .slice b18 n18 c18, .slice b20 n20 c20]) fun h2 hs2 hb2 ho2 => ?_
    have hfl : [word8, leB 4 g, leB 4 l, leB 4 d, leB 4 r, leB 4 c].flatten = word8 ++ (leB 4 g ++ (leB 4 l ++ (leB 4 d ++ (leB 4 r ++ leB 4 c)))) := by simp
    refine (FJoin_spec h2 (some ⟨h'.size, 0, none⟩) 6 6 _ [word8, leB 4 g, leB 4 l, leB 4 d, leB 4 r, leB 4 c] hb2.row rfl ⟨⟨_, _, _, rfl, h6.keep0 ho2⟩, ⟨_, _, _, rfl, h9.keep0 ho2⟩, ⟨_, _, _, rfl, h12.keep0 ho2⟩, ⟨_, _, _, rfl, h15.keep0 ho2⟩, ⟨_, _, _, rfl, h18.keep0 ho2⟩, ⟨_, _, _, rfl, h20.keep0 ho2⟩, trivial⟩ (by simp [word8, leB_len]) (by omega)).use ?_
    rintro v h3 ⟨b3, c3, rfl, hown3, ho3⟩
    refine (SSeal_spec h3 b3 _ c3 _ hown3.nums).use ?_
    rintro v h4 ⟨b4, c4, rfl, hown4, ho4⟩
    have ho14 : Only [] h h4 := ((ho1.trans hk.only).trans ho2).trans (ho3.trans ho4)
    rw [hfl] at hown4
    exact ⟨b4, c4, rfl, hown4.anylo fun b hb => Nat.le_trans (((ho1.trans hk.only).trans ho2).trans ho3).size (hown4.lo b hb), ho14⟩

def okSup (g l d r c : Int) : Prop := 1 ≤ g ∧ g < 2147483648 ∧ 1 ≤ l ∧ l < 2147483648 ∧ d < 2147483648 ∧ r < 4096 ∧ 1 ≤ c ∧ c ≤ 1024
instance (g l d r c : Int) : Decidable (okSup g l d r c) := by unfold okSup; infer_instance
/-- The numbers of a superblock's bytes: the first to the fifth. -/
def supN (fs : List Int) (i : Nat) : Int := leV ((fs.drop (8 + 4 * i)).take 4)
structure Sup where
  gen : Int
  life : Int
  done : Int
  root : Int
  cells : Int
def unpS (bs : List Int) : Option Sup :=
  match opens bs with
  | none => none
  | some fs => if okSup (supN fs 0) (supN fs 1) (supN fs 2) (supN fs 3) (supN fs 4) ∧ packS (supN fs 0) (supN fs 1) (supN fs 2) (supN fs 3) (supN fs 4) = bs then some ⟨supN fs 0, supN fs 1, supN fs 2, supN fs 3, supN fs 4⟩ else none
theorem supN_bd {fs : List Int} (hb : ∀ x ∈ fs, isByte x) (i : Nat) : 0 ≤ supN fs i ∧ supN fs i < 4294967296 := by
  have h := leV_bd ((fs.drop (8 + 4 * i)).take 4) fun x hx => hb x (List.mem_of_mem_drop (List.mem_of_mem_take hx))
  have hp : (256 : Int) ^ ((fs.drop (8 + 4 * i)).take 4).length ≤ 4294967296 := by
    have : (256 : Nat) ^ ((fs.drop (8 + 4 * i)).take 4).length ≤ 4294967296 := Nat.le_trans (Nat.pow_le_pow_right (by omega) (show ((fs.drop (8 + 4 * i)).take 4).length ≤ 4 by rw [List.length_take]; omega)) (by decide)
    have := Int.ofNat_le.2 this
    rw [Int.natCast_pow] at this
    exact this
  unfold supN
  omega
theorem opens_byte {bs fs : List Int} (hb : ∀ x ∈ bs, isByte x) (h : opens bs = some fs) : (∀ x ∈ fs, isByte x) ∧ fs.length = 124 := by
  unfold opens at h
  split at h
  · rename_i hh
    injection h with h
    subst h
    exact ⟨fun x hx => hb x (List.mem_of_mem_take hx), by rw [List.length_take]; omega⟩
  · cases h

def supV : Option Sup → Value
  | none => .tuple #[.agg #[.int .i64 0, .int .i64 0, .int .i64 0, .int .i64 0], .int .i64 0, .bool false]
  | some s => .tuple #[.agg #[.int .i64 s.gen, .int .i64 s.life, .int .i64 s.done, .int .i64 s.root], .int .i64 s.cells, .bool true]

theorem SUnpack_spec (h : H) (base : Option Addr) (n c : Nat) (bs : List Int) (hr : Bytes h base n bs) (hb : ∀ x ∈ bs, isByte x) (hnc : n ≤ c) :
    Fn Pg 109 #[.slice base n c] h fun v h' => Only [] h h' ∧ v = supV (unpS bs) := by
  have hl := hr.1
  have hrlt := Rds.lt hr.2
  refine g109 (args := [_]) ?_
  refine New.blk (cs := [.int .i64 0, .int .i64 0, .int .i64 0, .int .i64 0]) fun h1 hs1 hb1 ho1 => ?_
  refine (SOpen_spec h1 base n c bs (hr.keep0 ho1) hb hnc).use ?_
  rintro v h2 ⟨ho2, hv⟩
  have hb2 := hb1.keep ho2 (by simp)
  cases hop : opens bs with
  | none =>
    rw [hop] at hv
    subst hv
    refine ⟨rfl, ?_⟩
    refine StN.blk (new := [.int .i64 0, .int .i64 0, .int .i64 0, .int .i64 0]) hb2 rfl (by simp [Value.oneCell']) fun h3 hb3 ho3 _ => ?_
    refine LdN.row hb3.row rfl ?_
    refine ⟨(ho1.trans ho2).trans' ho3 (by simp), ?_⟩
    rw [unpS, hop]
    rfl
  | some fs =>
  rw [hop] at hv
  obtain ⟨b3, c3, rfl, hown3⟩ := hv
  obtain ⟨hfb, hfl⟩ := opens_byte hb hop
  have hcc := hown3.le
  refine Sl.suf (vs := fs.map (.int .u8)) hown3.rds (by simp; omega) (by omega) (by omega) hcc fun b4 hr4 hb4 _ => ?_
  rw [show (8 : Int).toNat = 8 from rfl] at hr4 ⊢
  have hr4' : Bytes h2 b4 (124 - 8) (fs.drop 8) := Nums.drop hr4 hfl
  refine New.blk (cs := [.int .i64 4, .int .i64 4, .int .i64 4, .int .i64 4, .int .i64 4]) fun h5 hs5 hb5 ho5 => ?_
  refine (FTake_spec h5 b4 (124 - 8) (c3 - 8) (fs.drop 8) (some ⟨h2.size, 0, none⟩) 5 5 [4, 4, 4, 4, 4] (hr4'.keep0 ho5) (by omega) (fun x hx => hfb x (List.mem_of_mem_drop hx)) ⟨rfl, hb5.row⟩ (by decide) (by decide) (by decide)).use ?_
  rintro v h6 ⟨b6, c6, rfl, hown6, ho6⟩
  have htk : takeN [4, 4, 4, 4, 4] (fs.drop 8) = [supN fs 0, supN fs 1, supN fs 2, supN fs 3, supN fs 4] := by
    simp only [takeN, supN, List.drop_drop]
  rw [htk] at hown6
  have b0 := supN_bd hfb 0
  have b1 := supN_bd hfb 1
  have b2 := supN_bd hfb 2
  have b3' := supN_bd hfb 3
  have b4' := supN_bd hfb 4
  have hb6 : Blk h6 h.size [.int .i64 0, .int .i64 0, .int .i64 0, .int .i64 0] := (hb2.keep ho5 (by simp)).keep ho6 (by simp)
  have hsz : h.size < h5.size := by have := ho2.size; have := ho5.size; omega
  have hdis : ∀ x ∈ blks b6, x ≠ h.size := fun x hx => by have := hown6.lo x hx; omega
  have hn6 := hown6.nums
  obtain ⟨q, hq⟩ : ∃ q, supN fs 0 = q := ⟨_, rfl⟩
  have ho16 : Only [] h h6 := ((ho1.trans ho2).trans ho5).trans ho6
  have hbs := hown6.blk (i := 0) (by omega)
  obtain ⟨p6, rest, rfl, hlo6, _, hblk6, _⟩ := hbs
  have hpn : p6 ≠ h.size := hdis p6 (by simp [blks])
  refine HeldH.mk [h.size] ?_
  refine Ix.own (j := 0) (by omega) (by decide) rfl rfl ?_
  refine LdM.mk (by simpa using hpn) (Ld.blk (v := .int .i64 (supN fs 0)) hblk6 rfl ?_)
  refine Ix.own (j := 1) (by omega) (by decide) rfl rfl ?_
  refine LdM.mk (by simpa using hpn) (Ld.blk (v := .int .i64 (supN fs 1)) hblk6 rfl ?_)
  refine Ix.own (j := 2) (by omega) (by decide) rfl rfl ?_
  refine LdM.mk (by simpa using hpn) (Ld.blk (v := .int .i64 (supN fs 2)) hblk6 rfl ?_)
  refine Ix.own (j := 3) (by omega) (by decide) rfl rfl ?_
  refine LdM.mk (by simpa using hpn) (Ld.blk (v := .int .i64 (supN fs 3)) hblk6 rfl ?_)
  refine Ix.own (j := 4) (by omega) (by decide) rfl rfl ?_
  refine LdM.mk (by simpa using hpn) (Ld.blk (v := .int .i64 (supN fs 4)) hblk6 rfl ?_)
  refine ⟨rfl, ?_⟩
  refine StN.blk (new := [.int .i64 (supN fs 0), .int .i64 (supN fs 1), .int .i64 (supN fs 2), .int .i64 (supN fs 3)]) hb6 rfl (by simp [Value.oneCell']) fun h7 hb7 ho7 _ => ?_
  refine ⟨ho7, ?_⟩
  have ho17 : Only [] h h7 := ho16.trans' ho7 (by simp)
  have hr7 : Bytes h7 base n bs := hr.keep0 ho17
  -- the conditions' verdict
  refine dC_seq ?_
  refine seq_join (σ := Bool) (fun x => [(82, .bool x), (2, .pointer (some ⟨h.size, 0, none⟩)), (3, .int .i64 (supN fs 4))])
    (fun x h8 => Only [] h h8 ∧ Blk h8 h.size [.int .i64 (supN fs 0), .int .i64 (supN fs 1), .int .i64 (supN fs 2), .int .i64 (supN fs 3)] ∧ x = !decide (okSup (supN fs 0) (supN fs 1) (supN fs 2) (supN fs 3) (supN fs 4) ∧ packS (supN fs 0) (supN fs 1) (supN fs 2) (supN fs 3) (supN fs 4) = bs)) ?_ ?_
  · have no : ¬ okSup (supN fs 0) (supN fs 1) (supN fs 2) (supN fs 3) (supN fs 4) → Only [] h h7 ∧ Blk h7 h.size [.int .i64 (supN fs 0), .int .i64 (supN fs 1), .int .i64 (supN fs 2), .int .i64 (supN fs 3)] ∧ true = !decide (okSup (supN fs 0) (supN fs 1) (supN fs 2) (supN fs 3) (supN fs 4) ∧ packS (supN fs 0) (supN fs 1) (supN fs 2) (supN fs 3) (supN fs 4) = bs) :=
      fun hn => ⟨ho17, hb7, by rw [decide_eq_false (fun h => hn h.1)]; rfl⟩
    refine dC_ops ?_
    refine Ld.blk hb7 rfl ?_
    refine CLt.mk (fun k => ⟨true, ⟨rfl, rfl, rfl, trivial⟩, no fun h => by unfold okSup at h; omega⟩) fun k1 => ?_
    refine Ld.blk hb7 rfl ?_
    refine CLe.mk (fun k => ⟨true, ⟨rfl, rfl, rfl, trivial⟩, no fun h => by unfold okSup at h; omega⟩) fun k2 => ?_
    refine Ld.blk hb7 rfl ?_
    refine CLt.mk (fun k => ⟨true, ⟨rfl, rfl, rfl, trivial⟩, no fun h => by unfold okSup at h; omega⟩) fun k3 => ?_
    refine Ld.blk hb7 rfl ?_
    refine CLe.mk (fun k => ⟨true, ⟨rfl, rfl, rfl, trivial⟩, no fun h => by unfold okSup at h; omega⟩) fun k4 => ?_
    refine Ld.blk hb7 rfl ?_
    refine CLe.mk (fun k => ⟨true, ⟨rfl, rfl, rfl, trivial⟩, no fun h => by unfold okSup at h; omega⟩) fun k5 => ?_
    refine Ld.blk hb7 rfl ?_
    refine CLe.mk (fun k => ⟨true, ⟨rfl, rfl, rfl, trivial⟩, no fun h => by unfold okSup at h; omega⟩) fun k6 => ?_
    refine CLt.mk (fun k => ⟨true, ⟨rfl, rfl, rfl, trivial⟩, no fun h => by unfold okSup at h; omega⟩) fun k7 => ?_
    refine CLt.mk (fun k => ⟨true, ⟨rfl, rfl, rfl, trivial⟩, no fun h => by unfold okSup at h; omega⟩) fun k8 => ?_
    refine LdN.row hb7.row rfl ?_
    refine (SPack_spec h7 (supN fs 0) (supN fs 1) (supN fs 2) (supN fs 3) (supN fs 4) (by unfold i63; omega) (by unfold i63; omega) (by unfold i63; omega) (by unfold i63; omega) (by unfold i63; omega)).use ?_
    rintro v h8 ⟨b8, c8, rfl, hown8, ho8⟩
    refine (BEqual_spec h8 b8 128 c8 _ base n c bs hown8.nums (hr7.keep0 ho8) (packS_byte _ _ _ _ _) hb).use ?_
    rintro v h9 ⟨rfl, rfl⟩
    refine ⟨_, ⟨rfl, rfl, rfl, trivial⟩, ho17.trans ho8, hb7.keep ho8 (by simp), ?_⟩
    have hok : okSup (supN fs 0) (supN fs 1) (supN fs 2) (supN fs 3) (supN fs 4) := by unfold okSup; omega
    simp [hok]
  · rintro x h8 g ⟨ho8, hb8, hx⟩
    by_cases hok : okSup (supN fs 0) (supN fs 1) (supN fs 2) (supN fs 3) (supN fs 4) ∧ packS (supN fs 0) (supN fs 1) (supN fs 2) (supN fs 3) (supN fs 4) = bs
    · rw [decide_eq_true hok] at hx
      subst hx
      refine LdN.row hb8.row rfl ?_
      refine ⟨rfl, ?_⟩
      refine StN.blk (new := [.int .i64 (supN fs 0), .int .i64 (supN fs 1), .int .i64 (supN fs 2), .int .i64 (supN fs 3)]) hb8 rfl (by simp [Value.oneCell']) fun h9 hb9 ho9 _ => ?_
      refine LdN.row hb9.row rfl ?_
      refine ⟨ho8.trans' ho9 (by simp), ?_⟩
      rw [unpS, hop]
      simp only [if_pos hok]
      rfl
    · rw [decide_eq_false hok] at hx
      subst hx
      refine ⟨rfl, ?_⟩
      refine StN.blk (new := [.int .i64 0, .int .i64 0, .int .i64 0, .int .i64 0]) hb8 rfl (by simp [Value.oneCell']) fun h9 hb9 ho9 _ => ?_
      refine LdN.row hb9.row rfl ?_
      refine ⟨ho8.trans' ho9 (by simp), ?_⟩
      rw [unpS, hop]
      simp only [if_neg hok]
      rfl

/-- Which of two superblocks counts. -/
def chooseS (a b : Option Sup) : Option Sup × Int :=
  match a, b with
  | none, none => (none, 0)
  | some s, none => (some s, 0)
  | none, some t => (some t, 1)
  | some s, some t => if s.gen < t.gen then (some t, 1) else (some s, 0)
def chooseV (x : Option Sup × Int) : Value :=
  match x with
  | (none, _) => .tuple #[.agg #[.int .i64 0, .int .i64 0, .int .i64 0, .int .i64 0], .int .i64 0, .int .i64 0, .bool false]
  | (some s, k) => .tuple #[.agg #[.int .i64 s.gen, .int .i64 s.life, .int .i64 s.done, .int .i64 s.root], .int .i64 s.cells, .int .i64 k, .bool true]

theorem SChoose_spec (h : H) (b1 : Option Addr) (n1 c1 : Nat) (xs : List Int) (b2 : Option Addr) (n2 c2 : Nat) (ys : List Int) (h1 : Bytes h b1 n1 xs) (h2 : Bytes h b2 n2 ys) (hx : ∀ x ∈ xs, isByte x) (hy : ∀ x ∈ ys, isByte x) (hc1 : n1 ≤ c1) (hc2 : n2 ≤ c2) :
    Fn Pg 83 #[.slice b1 n1 c1, .slice b2 n2 c2] h fun v h' => Only [] h h' ∧ v = chooseV (chooseS (unpS xs) (unpS ys)) := by
  refine g83 (args := [_, _]) ?_
  refine New.blk (cs := [.int .i64 0, .int .i64 0, .int .i64 0, .int .i64 0]) fun h3 hs3 hb3 ho3 => ?_
  refine (SUnpack_spec h3 b1 n1 c1 xs (h1.keep0 ho3) hx hc1).use ?_
  rintro v h4 ⟨ho4, rfl⟩
  have hb4 := hb3.keep ho4 (by simp)
  cases hs : unpS xs with
  | none =>
    refine ⟨rfl, ?_⟩
    refine StN.blk (new := [.int .i64 0, .int .i64 0, .int .i64 0, .int .i64 0]) hb4 rfl (by simp [Value.oneCell']) fun h5 hb5 ho5 _ => ?_
    have ho15 : Only [] h h5 := (ho3.trans ho4).trans' ho5 (by simp)
    refine (SUnpack_spec h5 b2 n2 c2 ys (h2.keep0 ho15) hy hc2).use ?_
    rintro v h6 ⟨ho6, rfl⟩
    have hb6 := hb5.keep ho6 (by simp)
    cases ht : unpS ys with
    | none =>
      refine New.blk (cs := [.int .i64 0, .int .i64 0, .int .i64 0, .int .i64 0]) fun h7 hs7 hb7 ho7 => ?_
      refine ⟨rfl, ?_⟩
      refine StN.blk (new := [.int .i64 0, .int .i64 0, .int .i64 0, .int .i64 0]) hb7 rfl (by simp [Value.oneCell']) fun h8 hb8 ho8 _ => ?_
      have hne : h.size ≠ h6.size := by have := hb6.lt; omega
      have hb6' := (hb6.keep ho7 (by simp)).keep ho8 (by simpa using hne)
      refine LdN.row hb6'.row rfl ?_
      refine ⟨rfl, ?_⟩
      refine StN.blk (new := [.int .i64 0, .int .i64 0, .int .i64 0, .int .i64 0]) hb6' rfl (by simp [Value.oneCell']) fun h9 hb9 ho9 _ => ?_
      refine LdN.row hb9.row rfl ?_
      exact ⟨(((ho15.trans ho6).trans ho7).trans' ho8 (by simp; have := ho15.size; have := ho6.size; omega)).trans' ho9 (by simp), rfl⟩
    | some t =>
      refine New.blk (cs := [.int .i64 0, .int .i64 0, .int .i64 0, .int .i64 0]) fun h7 hs7 hb7 ho7 => ?_
      refine ⟨rfl, ?_⟩
      refine StN.blk (new := [.int .i64 t.gen, .int .i64 t.life, .int .i64 t.done, .int .i64 t.root]) hb7 rfl (by simp [Value.oneCell']) fun h8 hb8 ho8 _ => ?_
      have hne : h.size ≠ h6.size := by have := hb6.lt; omega
      have hb6' := (hb6.keep ho7 (by simp)).keep ho8 (by simpa using hne)
      refine LdN.row hb8.row rfl ?_
      refine ⟨rfl, ?_⟩
      refine StN.blk (new := [.int .i64 t.gen, .int .i64 t.life, .int .i64 t.done, .int .i64 t.root]) hb6' rfl (by simp [Value.oneCell']) fun h9 hb9 ho9 _ => ?_
      refine LdN.row hb9.row rfl ?_
      exact ⟨(((ho15.trans ho6).trans ho7).trans' ho8 (by simp; have := ho15.size; have := ho6.size; omega)).trans' ho9 (by simp), rfl⟩
  | some s =>
    refine ⟨rfl, ?_⟩
    refine StN.blk (new := [.int .i64 s.gen, .int .i64 s.life, .int .i64 s.done, .int .i64 s.root]) hb4 rfl (by simp [Value.oneCell']) fun h5 hb5 ho5 _ => ?_
    have ho15 : Only [] h h5 := (ho3.trans ho4).trans' ho5 (by simp)
    refine (SUnpack_spec h5 b2 n2 c2 ys (h2.keep0 ho15) hy hc2).use ?_
    rintro v h6 ⟨ho6, rfl⟩
    have hb6 := hb5.keep ho6 (by simp)
    have hne : h.size ≠ h6.size := by have := hb6.lt; omega
    have hs6 : h.size ≤ h6.size := by have := ho15.size; have := ho6.size; omega
    cases ht : unpS ys with
    | none =>
      refine New.blk (cs := [.int .i64 0, .int .i64 0, .int .i64 0, .int .i64 0]) fun h7 hs7 hb7 ho7 => ?_
      refine ⟨rfl, ?_⟩
      refine StN.blk (new := [.int .i64 0, .int .i64 0, .int .i64 0, .int .i64 0]) hb7 rfl (by simp [Value.oneCell']) fun h8 hb8 ho8 _ => ?_
      have hb6' := (hb6.keep ho7 (by simp)).keep ho8 (by simpa using hne)
      refine LdN.row hb6'.row rfl ?_
      refine ⟨rfl, ?_⟩
      refine StN.blk (new := [.int .i64 s.gen, .int .i64 s.life, .int .i64 s.done, .int .i64 s.root]) hb6' rfl (by simp [Value.oneCell']) fun h9 hb9 ho9 _ => ?_
      refine LdN.row hb9.row rfl ?_
      exact ⟨(((ho15.trans ho6).trans ho7).trans' ho8 (by simpa using hs6)).trans' ho9 (by simp), rfl⟩
    | some t =>
      refine New.blk (cs := [.int .i64 0, .int .i64 0, .int .i64 0, .int .i64 0]) fun h7 hs7 hb7 ho7 => ?_
      refine ⟨rfl, ?_⟩
      refine StN.blk (new := [.int .i64 t.gen, .int .i64 t.life, .int .i64 t.done, .int .i64 t.root]) hb7 rfl (by simp [Value.oneCell']) fun h8 hb8 ho8 _ => ?_
      have hb6' := (hb6.keep ho7 (by simp)).keep ho8 (by simpa using hne)
      refine Ld.blk hb8 rfl ?_
      refine Ld.blk hb6' rfl ?_
      refine CLt.mk (fun hlt => ?_) (fun hge => ?_)
      · refine LdN.row hb8.row rfl ?_
        refine ⟨rfl, ?_⟩
        refine StN.blk (new := [.int .i64 t.gen, .int .i64 t.life, .int .i64 t.done, .int .i64 t.root]) hb6' rfl (by simp [Value.oneCell']) fun h9 hb9 ho9 _ => ?_
        refine LdN.row hb9.row rfl ?_
        refine ⟨(((ho15.trans ho6).trans ho7).trans' ho8 (by simpa using hs6)).trans' ho9 (by simp), ?_⟩
        rw [chooseS, if_pos hlt]
        rfl
      · refine LdN.row hb6'.row rfl ?_
        refine ⟨rfl, ?_⟩
        refine StN.blk (new := [.int .i64 s.gen, .int .i64 s.life, .int .i64 s.done, .int .i64 s.root]) hb6' rfl (by simp [Value.oneCell']) fun h9 hb9 ho9 _ => ?_
        refine LdN.row hb9.row rfl ?_
        refine ⟨(((ho15.trans ho6).trans ho7).trans' ho8 (by simpa using hs6)).trans' ho9 (by simp), ?_⟩
        rw [chooseS, if_neg (by omega)]
        rfl

/-- A superblock that was packed is unpacked. -/
theorem unpS_packS {g l d r c : Int} (hk : okSup g l d r c) (hd : 0 ≤ d) (hr : 0 ≤ r) : unpS (packS g l d r c) = some ⟨g, l, d, r, c⟩ := by
  have hop : opens (packS g l d r c) = some (framed (word8 ++ (leB 4 g ++ (leB 4 l ++ (leB 4 d ++ (leB 4 r ++ leB 4 c)))))) := opens_secOf _
  have hk' := hk
  unfold okSup at hk'
  have hfr : framed (word8 ++ (leB 4 g ++ (leB 4 l ++ (leB 4 d ++ (leB 4 r ++ leB 4 c))))) = word8 ++ (leB 4 g ++ (leB 4 l ++ (leB 4 d ++ (leB 4 r ++ (leB 4 c ++ List.replicate 96 0))))) := by
    unfold framed
    rw [List.take_of_length_le (by simp [word8, leB_len]), List.drop_replicate]
    simp [word8, leB_len]
  have hv : ∀ n : Int, 0 ≤ n ∧ n < 4294967296 → leV (leB 4 n) = n := fun n hn => by rw [leV_leB]; omega
  have w8 : word8.length = 8 := rfl
  have e : ∀ n : Int, (leB 4 n).length = 4 := leB_len 4
  have key : ∀ (pre : List Int) (n : Int) (suf : List Int) (i : Nat), pre.length = 8 + 4 * i → 0 ≤ n ∧ n < 4294967296 → supN (pre ++ (leB 4 n ++ suf)) i = n := fun pre n suf i hp hn => by
    unfold supN
    rw [List.drop_left' hp, List.take_left' (e n), hv n hn]
  have s0 : supN (framed (word8 ++ (leB 4 g ++ (leB 4 l ++ (leB 4 d ++ (leB 4 r ++ leB 4 c)))))) 0 = g := by rw [hfr]; exact key word8 g _ 0 rfl (by omega)
  have s1 : supN (framed (word8 ++ (leB 4 g ++ (leB 4 l ++ (leB 4 d ++ (leB 4 r ++ leB 4 c)))))) 1 = l := by
    rw [hfr, ← List.append_assoc]; exact key _ l _ 1 (by simp [w8, e]) (by omega)
  have s2 : supN (framed (word8 ++ (leB 4 g ++ (leB 4 l ++ (leB 4 d ++ (leB 4 r ++ leB 4 c)))))) 2 = d := by
    rw [hfr, ← List.append_assoc, ← List.append_assoc]; exact key _ d _ 2 (by simp [w8, e]) (by omega)
  have s3 : supN (framed (word8 ++ (leB 4 g ++ (leB 4 l ++ (leB 4 d ++ (leB 4 r ++ leB 4 c)))))) 3 = r := by
    rw [hfr, ← List.append_assoc, ← List.append_assoc, ← List.append_assoc]; exact key _ r _ 3 (by simp [w8, e]) (by omega)
  have s4 : supN (framed (word8 ++ (leB 4 g ++ (leB 4 l ++ (leB 4 d ++ (leB 4 r ++ leB 4 c)))))) 4 = c := by
    rw [hfr, ← List.append_assoc, ← List.append_assoc, ← List.append_assoc, ← List.append_assoc]; exact key _ c _ 4 (by simp [w8, e]) (by omega)
  rw [unpS, hop]
  simp only [s0, s1, s2, s3, s4]
  rw [if_pos ⟨hk, trivial⟩]
theorem unpS_zeros : unpS (List.replicate 128 0) = none := by rw [unpS, opens_zeros]
theorem unpS_nil : unpS [] = none := by
  rw [unpS]
  have : opens [] = none := by rw [opens, if_neg (fun h => by cases h.1)]
  rw [this]
end Go.Proofs.YtiabgojnljfmhaaGreat.Ov.W
