/-
  WHAT THE FUNCTIONS OF PACKAGE block DO (the writing side). No condition beyond each statement's own.
-/
import Derived.Test.YtaffgkgaoiolbaaPC
namespace Go.Proofs.Ytaffgkgaoiolbaa.Ov.W

/-- A coder at block p, its table at block t. -/
def Cdr (h : H) (p t : Nat) : Prop := (∃ a b : Int, Blk h p [.pointer (some ⟨t, 0, none⟩), .int .i64 a, .int .i64 b]) ∧ Tbl h t ∧ p ≠ t
theorem Cdr.keep {M : List Nat} {h h' : H} {p t : Nat} (ho : Only M h h') (h1 : p ∉ M) (h2 : t ∉ M) (hc : Cdr h p t) : Cdr h' p t := by
  obtain ⟨⟨a, b, hb⟩, ht, hn⟩ := hc
  exact ⟨⟨a, b, hb.keep ho h1⟩, ht.keep ho h2, hn⟩
theorem Cdr.keep0 {h h' : H} {p t : Nat} (ho : Only [] h h') (hc : Cdr h p t) : Cdr h' p t := hc.keep ho (by simp) (by simp)
theorem Cdr.lt {h : H} {p t : Nat} (hc : Cdr h p t) : p < h.size ∧ t < h.size := by
  obtain ⟨⟨a, b, hb⟩, ht, hn⟩ := hc
  exact ⟨hb.lt, ht.lt⟩

theorem BNew_spec (h : H) : Fn Pg 5 #[] h fun v h' => ∃ p t, v = .pointer (some ⟨p, 0, none⟩) ∧ Cdr h' p t ∧ Only [] h h' ∧ h.size ≤ p ∧ h.size ≤ t := by
  refine g5 (args := []) ?_
  refine (CNew_spec h).use ?_
  rintro v h1 ⟨t, rfl, ht, ho1, hlo⟩
  refine New.blk (cs := [.pointer (some ⟨t, 0, none⟩), .int .i64 0, .int .i64 0]) fun h2 hs2 hb2 ho2 => ?_
  have htl := ht.lt
  exact ⟨_, t, rfl, ⟨⟨0, 0, hb2⟩, ht.keep ho2 (by simp), by omega⟩, ho1.trans ho2, ho1.size, hlo⟩

theorem right_spec (h : H) (base : Option Addr) (n c : Nat) (xs : List Int) (hr : Ints h base n xs) (hx : ∀ x ∈ xs, okS x) (hn : n ≤ 2 ^ 47) : Fn Pg 11 #[.slice base n c] h fun v h' => v = .bool true ∧ h' = h := by
  have hl := hr.1
  refine g11 (args := [_]) ?_
  refine LoopH.mk (σ := Nat) (fun i => [(7, .int .i64 i)]) (fun i h' => i ≤ n ∧ h' = h) (fun i _ => n - i) 0 ⟨rfl, trivial⟩ ⟨by omega, rfl⟩ ?_
  rintro i h' g ⟨hi, rfl⟩
  refine CLt.mk (fun hlt => ?_) (fun hge => ?_)
  · refine Ix.num hr (by omega) (by omega) fun a ha => ?_
    refine Ld.mk ha ?_
    refine (Sample_spec _ _).use ?_
    rintro v h2 ⟨rfl, rfl⟩
    rw [show ((i : Int)).toNat = i from by omega, decide_eq_true (show okS (xs.getD i 0) from getD_all (p := okS) hx (by unfold okS; omega) i)]
    refine Ar.fit64 (by omega) ?_
    exact ⟨i + 1, ⟨rfl, trivial⟩, ⟨by omega, rfl⟩, by omega⟩
  · exact ⟨rfl, rfl⟩

/-- A sum as four bytes. -/
def sum4 (n : Int) : List Int := [IntKind.u8.wrap (n.fdiv (2 ^ min 24 IntKind.u32.bits)), IntKind.u8.wrap (n.fdiv (2 ^ min 16 IntKind.u32.bits)), IntKind.u8.wrap (n.fdiv (2 ^ min 8 IntKind.u32.bits)), IntKind.u8.wrap n]
theorem sum_spec (h : H) (p t : Nat) (base : Option Addr) (n c : Nat) (bs : List Int) (hc : Cdr h p t) (hr : Bytes h base n bs) (hd : ∀ b ∈ blks base, b ≠ t) (hn : n ≤ 2 ^ 47) :
    Fn Pg 22 #[.pointer (some ⟨p, 0, none⟩), .slice base n c] h fun v h' => ∃ b1, v = .slice b1 4 4 ∧ OwnS h' h.size b1 4 4 1 ((sum4 (crcOf 4294967295 bs)).map (.int .u8)) ∧ Cdr h' p t ∧ Only [t] h h' := by
  obtain ⟨⟨a, b, hb⟩, ht, hpt⟩ := hc
  refine g22 (args := [_, _]) ?_
  refine Ld.blk hb rfl ?_
  refine (Sum_spec h t base n c bs ht hr hd hn).use ?_
  rintro v h1 ⟨rfl, ht1, ho1⟩
  refine Shr.any (by omega) fun m1 hm1 => ?_
  refine Ar.any fun m2 hm2 => ?_
  refine Shr.any (by omega) fun m3 hm3 => ?_
  refine Ar.any fun m4 hm4 => ?_
  refine Shr.any (by omega) fun m5 hm5 => ?_
  refine Ar.any fun m6 hm6 => ?_
  refine Ar.any fun m7 hm7 => ?_
  refine New.blk (cs := [.int .u8 m2, .int .u8 m4, .int .u8 m6, .int .u8 m7]) fun h2 hs2 hb2 ho2 => ?_
  refine ⟨_, rfl, ⟨rfl, .inr ⟨h1.size, [], rfl, ho1.size, Nat.le_refl _, ?_, rfl⟩⟩, ⟨⟨a, b, (hb.keep ho1 (by simp [hpt])).keep ho2 (by simp)⟩, ht1.keep ho2 (by simp), hpt⟩, ho1.trans' ho2 (by simp)⟩
  have : [Value.int .u8 m2, .int .u8 m4, .int .u8 m6, .int .u8 m7] = (sum4 (crcOf 4294967295 bs)).map (.int .u8) ++ [] := by
    rw [List.append_nil, hm2, hm1, hm4, hm3, hm6, hm5, hm7]
    rfl
  rw [← this]
  exact hb2

/-- A sector's bytes. -/
def framed (bs : List Int) : List Int := bs.take 124 ++ (List.replicate 124 (0 : Int)).drop bs.length
def secOf (bs : List Int) : List Int := framed bs ++ sum4 (crcOf 4294967295 (framed bs))
theorem Seal_spec (h : H) (p t : Nat) (base : Option Addr) (n c : Nat) (bs : List Int) (hc : Cdr h p t) (hr : Bytes h base n bs) (hn : n ≤ 124) :
    Fn Pg 16 #[.pointer (some ⟨p, 0, none⟩), .slice base n c] h fun v h' => ∃ b1 c1, v = .tuple #[.slice b1 128 c1, .int .i64 0] ∧ OwnS h' h.size b1 128 c1 1 ((secOf bs).map (.int .u8)) ∧ Cdr h' p t ∧ Only [p, t] h h' := by
  have hl := hr.1
  have hlt := hc.lt
  have hpt := hc.2.2
  refine g16 (args := [_, _]) ?_
  refine CLt.f (by omega) ?_
  refine Mk.own (by omega) (by omega) (by omega) fun h1 hown1 ho1 hs1 => ?_
  rw [show (124 : Int).toNat = 124 from rfl] at hown1 ⊢
  have hrep : List.replicate 124 (Value.int .u8 0) = (List.replicate 124 (0 : Int)).map (.int .u8) := List.map_replicate.symm
  rw [hrep] at hown1
  refine Raw.copyOwn (by kernel_rfl) rfl rfl hown1 (hr.keep0 ho1) fun h2 hown2 ho2 hs2 => ?_
  rw [← hl] at hown2
  have hc1 := hc.keep0 ho1
  have hc2 : Cdr h2 p t := hc1.keep ho2 (by simp [blks]; omega) (by simp [blks]; omega)
  obtain ⟨⟨a, b, hb2⟩, ht2, _⟩ := hc2
  refine (IAdd_spec h2 p 1 _ a 1 hb2 rfl).use ?_
  rintro v h3 ⟨⟨z, rfl, _, hb3⟩, ho3⟩
  have hc3 : Cdr h3 p t := ⟨⟨z, b, hb3⟩, ht2.keep ho3 (by simpa using fun h => hpt h.symm), hpt⟩
  have hown3 : OwnS h3 h.size _ 124 124 1 _ := hown2.keep ho3 (by simp [blks]; omega)
  refine (sum_spec h3 p t _ 124 124 _ hc3 hown3.nums (by simp [blks]; omega) (by omega)).use ?_
  rintro v h4 ⟨b4, rfl, hown4, hc4, ho4⟩
  have h03 : Only [p, t] h h3 := ((ho1.trans' ho2 (M' := _) (by simp [blks])).mono (by simp) : Only [p, t] h h2).trans (ho3.mono (by simp))
  have h04 : Only [p, t] h h4 := h03.trans (ho4.mono (by simp))
  have hown3' := hown3.keep ho4 (by simp [blks]; omega)
  refine App.own hown3' hown4.rds rfl (by simp [sum4, Value.oneCell']) (by decide) rfl (by omega) (by decide) h04.size fun h5 b5 c5 hown5 ho5 hbl5 => ?_
  refine ⟨b5, c5, rfl, ?_, hc4.keep ho5 (by simp [blks]; omega) (by simp [blks]; omega), h04.trans' ho5 (by simp [blks])⟩
  rw [← List.map_append] at hown5
  exact hown5

theorem Pack_spec (h : H) (p t : Nat) (base : Option Addr) (n c : Nat) (xs : List Int) (hc : Cdr h p t) (hr : Ints h base n xs) (hnc : n ≤ c) (hx : ∀ x ∈ xs, okS x) (hn1 : 1 ≤ n) (hn : n ≤ 2 ^ 40) :
    Fn Pg 12 #[.pointer (some ⟨p, 0, none⟩), .slice base n c] h fun v h' => ∃ b1 c1, ∃ (m : Nat) (bs : List Int) (kind : Nat) (l : List Bool), v = .tuple #[.slice b1 128 c1, .int .i64 m, .int .i64 0] ∧
      OwnS h' h.size b1 128 c1 1 ((secOf bs).map (.int .u8)) ∧ Cdr h' p t ∧ Only [p, t] h h' ∧ 1 ≤ m ∧ m ≤ n ∧ m ≤ 64 ∧ min n 40 ≤ m ∧ FrameOf kind (xs.take m) l ∧ BitsOf bs l ∧ kind ≤ 18 := by
  have hl := hr.1
  have hchk : ∀ m : Nat, m ≤ 64 → chk (xs.take m) = 0 := fun m hm => by
    rw [chk, if_pos (fun x hx' => hx x (List.mem_of_mem_take hx')), if_pos (by simp; omega)]
  refine g12 (args := [_, _]) ?_
  refine CEq.f (by omega) ?_
  refine (right_spec h base n c xs hr hx (by omega)).use ?_
  rintro v h1 ⟨rfl, rfl⟩
  have hmin : min (n : Int) 64 = ((min n 64 : Nat) : Int) := by omega
  refine Sl.pre (by omega) (by omega) ?_
  rw [hmin, show (((min n 64 : Nat) : Int)).toNat = min n 64 from by omega]
  refine (Encode_spec h1 base (min n 64) c (xs.take (min n 64)) (hr.take (by omega)) (by omega) (by omega) (hchk _ (by omega))).use ?_
  rintro v h2 ⟨ho2, b2, n2, c2, bs2, kd2, l2, rfl, hown2, hbs2, hfr2, hkd2, hll2⟩
  refine LoopH.mk (σ := Nat × Option Addr × Nat × Nat × List Int) (fun (m, b, k, cc, bs) => [(7, .int .i64 m), (8, .slice b k cc)])
    (fun (m, b, k, cc, bs) h3 => 1 ≤ m ∧ m ≤ min n 64 ∧ min n 40 ≤ m ∧ Only [] h1 h3 ∧ OwnS h3 h1.size b k cc 1 (bs.map (.int .u8)) ∧ ∃ kd l, FrameOf kd (xs.take m) l ∧ BitsOf bs l ∧ kd ≤ 18 ∧ l.length ≤ 16 + 24 * m)
    (fun (m, _) _ => m) (min n 64, b2, n2, c2, bs2) ⟨rfl, rfl, trivial⟩ ⟨by omega, by omega, by omega, ho2, hown2, kd2, l2, hfr2, hbs2, hkd2, hll2⟩ ?_
  rintro ⟨m, b, k, cc, bs⟩ h3 g ⟨hm1, hm2, hm3, ho3, hown3, kd, l, hfr, hbs, hkd, hll⟩
  have hk : bs.length = k := by simpa using hown3.1
  have hbl := hbs.1
  refine CLt.mk (fun hlt => ?_) (fun hge => ?_)
  · refine Ar.fit64 (by omega) ?_
    refine Sl.pre (by omega) (by omega) ?_
    rw [show ((m : Int) - 1).toNat = m - 1 from by omega]
    refine (Encode_spec h3 base (m - 1) c (xs.take (m - 1)) ((hr.keep0 ho3).take (by omega)) (by omega) (by omega) (hchk _ (by omega))).use ?_
    rintro v h4 ⟨ho4, b4, n4, c4, bs4, kd4, l4, rfl, hown4, hbs4, hfr4, hkd4, hll4⟩
    refine ⟨(m - 1, b4, n4, c4, bs4), ⟨by show Value.int _ _ = Value.int _ _; congr 1; omega, rfl, trivial⟩, ⟨by omega, by omega, by omega, ho3.trans ho4, hown4.anylo (fun x hx => Nat.le_trans ho3.size (hown4.lo x hx)), kd4, l4, hfr4, hbs4, hkd4, hll4⟩, by show m - 1 < m; omega⟩
  · refine (Seal_spec h3 p t b k cc bs (hc.keep0 ho3) hown3.nums (by omega)).use ?_
    rintro v h4 ⟨b4, c4, rfl, hown4, hc4, ho4⟩
    exact ⟨b4, c4, m, bs, kd, l, rfl, hown4.anylo (fun x hx => Nat.le_trans ho3.size (hown4.lo x hx)), hc4, ho3.nil.trans ho4, by omega, by omega, by omega, by omega, hfr, hbs, hkd⟩
end Go.Proofs.Ytaffgkgaoiolbaa.Ov.W
