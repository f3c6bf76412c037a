/-
  sync.Once: ITS SLOW ROAD, WITH THE TABLE's fill. No condition beyond each statement's own.
-/
import Derived.Test.YtiabgojnljfmhaaGreatPA
import Derived.Tactics
import Derived.Tactics2
import Derived.Defers
import Derived.RegionTactic
namespace Go.Proofs.YtiabgojnljfmhaaGreat.Ov.W

set_option maxRecDepth 100000 in
set_option maxHeartbeats 1600000 in
theorem doSlow_spec (h : H) (t : Nat) (q : Value) (x : Bool) (ls : List Int) (hb : Blk h t (tabCells (.int .u32 0) (.int .i32 0) q x ls)) (hl : ls.length = 256) :
    Fn Pg 189 #[.pointer (some ⟨t, 0, none⟩), .func (.func 167) #[.pointer (some ⟨t, 0, none⟩)] #[]] h fun v h' => v = .tuple #[] ∧ Blk h' t (tabCells (.int .u32 1) (.int .i32 0) q true crcTab) ∧ Only [t] h h' := by
  refine Fn.intro fun w hw => ?_
  subst hw
  have hnot : ∀ (x : Bool) (w : World), (Op.unary .not (.bool x)).run Pg w = .ok (.bool (!x)) w := fun _ _ => rfl
  go_enter_defers Go.Proofs.Tryz.func189, Go.Proofs.Tryz.ntmps189
  go_wp2_with (first
    | (go_at_call 196; refine ((Lock_spec w.heap t 1 _ hb rfl).out w rfl).mono ?_; rintro e w1 ⟨v, rfl, hr1, rfl, hb1, ho1⟩)
    | (go_at_call 188; refine ((BLoad_spec w1.heap t 0 _ 0 hb1 rfl).out w1 rfl).mono ?_; rintro e w2 ⟨v, rfl, hr2, rfl, hb2⟩; rw [← hb2] at hb1 ho1)
    | (go_at_call 167; refine ((fill_spec w2.heap t _ _ q x ls hb1 hl).out w2 rfl).mono ?_; rintro e w3 ⟨v, rfl, hr3, rfl, hb3, ho3⟩))
  refine leaves_cons (f := 198) (args := #[.pointer (some ⟨t, 0, none⟩), .bool true]) (by simp) (by simp [go_sem]) ?_
  refine (BStore_def w3.heap t 0 _ _ hb3 rfl .returning w3 rfl).mono ?_
  rintro e u' w4 ⟨rfl, v, rfl, hr4, rfl, hb4, ho4⟩
  refine leaves_cons (f := 197) (args := #[.pointer (some ⟨t, 1, none⟩)]) (by simp [settle]) (by simp [go_sem]) ?_
  refine (Unlock_def w4.heap t 1 _ hb4 rfl _ w4 rfl).mono ?_
  rintro e u' w5 ⟨rfl, v, rfl, hr5, rfl, hb5, ho5⟩
  refine ⟨.tuple #[], ?_, .tuple #[], rfl, (((hr1.trans hr2).trans hr3).trans hr4).trans hr5, rfl, hb5, ((ho1.trans ho3).trans ho4).trans ho5⟩
  simp [results, Go.Proofs.Tryz.results189]

/-- A table: not made yet, or made. -/
def Tbl (h : H) (t : Nat) : Prop := ∃ (d : Int) (q : Value) (x : Bool) (ls : List Int), Blk h t (tabCells (.int .u32 d) (.int .i32 0) q x ls) ∧ ls.length = 256 ∧ (d = 0 ∨ d = 1 ∧ ls = crcTab)
theorem Tbl.keep {M : List Nat} {h h' : H} {t : Nat} (ho : Only M h h') (hn : t ∉ M) (hb : Tbl h t) : Tbl h' t := by
  obtain ⟨d, q, x, ls, hb, h1⟩ := hb
  exact ⟨d, q, x, ls, hb.keep ho hn, h1⟩
theorem Tbl.lt {h : H} {t : Nat} (hb : Tbl h t) : t < h.size := by
  obtain ⟨d, q, x, ls, hb, h1⟩ := hb
  exact hb.lt

theorem Do_spec (h : H) (t : Nat) (hb : Tbl h t) :
    Fn Pg 166 #[.pointer (some ⟨t, 0, none⟩), .func (.func 167) #[.pointer (some ⟨t, 0, none⟩)] #[]] h fun v h' => v = .tuple #[] ∧ (∃ q x, Blk h' t (tabCells (.int .u32 1) (.int .i32 0) q x crcTab)) ∧ Only [t] h h' := by
  obtain ⟨d, q, x, ls, hb, hl, hd⟩ := hb
  refine g166 (args := [_, _]) ?_
  refine (BLoad_spec h t 0 _ d hb rfl).use ?_
  rintro v h1 ⟨rfl, rfl⟩
  rcases hd with rfl | ⟨rfl, rfl⟩
  · refine (doSlow_spec h1 t q x ls hb hl).use ?_
    rintro v h2 ⟨rfl, hb2, ho2⟩
    exact ⟨rfl, ⟨q, true, hb2⟩, ho2⟩
  · exact ⟨rfl, ⟨q, x, hb⟩, Only.refl _ _⟩

set_option maxRecDepth 100000 in
theorem CNew_spec (h : H) : Fn Pg 67 #[] h fun v h' => ∃ t, v = .pointer (some ⟨t, 0, none⟩) ∧ Tbl h' t ∧ Only [] h h' ∧ h.size ≤ t := by
  refine g67 (args := []) ?_
  refine New.blk (cs := tabCells (.int .u32 0) (.int .i32 0) (.int .u32 0) false (List.replicate 256 0)) fun h' hs hb ho => ?_
  exact ⟨_, rfl, ⟨0, _, _, _, hb, by simp, .inl rfl⟩, ho, Nat.le_refl _⟩

/-- One byte more. -/
@[irreducible] def crcByte (s c : Int) : Int :=
  bitsV .xor .u32 (IntKind.u32.wrap (s * 2 ^ min 8 IntKind.u32.bits)) (crcTab.getD (bitsV .xor .u8 (IntKind.u8.wrap (s.fdiv (2 ^ min 24 IntKind.u32.bits))) c).toNat 0)
theorem crcByte_eq (s c : Int) : crcByte s c = bitsV .xor .u32 (IntKind.u32.wrap (s * 2 ^ min 8 IntKind.u32.bits)) (crcTab.getD (bitsV .xor .u8 (IntKind.u8.wrap (s.fdiv (2 ^ min 24 IntKind.u32.bits))) c).toNat 0) := by unfold crcByte; rfl
def crcOf (s : Int) (bs : List Int) : Int := bs.foldl crcByte s

theorem wrap8_bd (n : Int) : 0 ≤ IntKind.u8.wrap n ∧ IntKind.u8.wrap n < 256 := by
  unfold IntKind.wrap IntKind.bits IntKind.signed
  simp
  omega

theorem Add_spec (h : H) (t : Nat) (s : Int) (base : Option Addr) (n c : Nat) (bs : List Int) (hb : Tbl h t) (hr : Bytes h base n bs) (hd : ∀ b ∈ blks base, b ≠ t) (hn : n ≤ 2 ^ 47) :
    Fn Pg 137 #[.pointer (some ⟨t, 0, none⟩), .int .u32 s, .slice base n c] h fun v h' => v = .int .u32 (crcOf s bs) ∧ Tbl h' t ∧ Only [t] h h' := by
  have hl := hr.1
  refine g137 (args := [_, _, _]) ?_
  refine CLt.mk (fun hlt => ?_) (fun hge => ?_)
  · refine Raw.mkf rfl rfl ?_
    refine (Do_spec h t hb).use ?_
    rintro v h1 ⟨rfl, ⟨q, x, hb1⟩, ho1⟩
    have hr1 := hr.keep ho1 (fun b hb' => by simpa using hd b hb')
    refine LoopH.mk (σ := Nat) (fun i => [(20, .int .i64 i), (1, .int .u32 (crcOf s (bs.take i)))]) (fun i h2 => i ≤ n ∧ h2 = h1) (fun i _ => n - i) 0 ⟨rfl, rfl, trivial⟩ ⟨by omega, rfl⟩ ?_
    rintro i h2 g ⟨hi, rfl⟩
    refine CLt.mk (fun hlt2 => ?_) (fun hge2 => ?_)
    · refine Ix.num hr1 (by omega) (by omega) fun a ha => ?_
      refine Ld.mk ha ?_
      rw [show ((i : Int)).toNat = i from by omega]
      refine Shl.any (by omega) fun m1 hm1 => ?_
      refine Shr.any (by omega) fun m2 hm2 => ?_
      refine Ar.any fun m3 hm3 => ?_
      refine Bits.any fun m4 hm4 => ?_
      have hm4b : 0 ≤ m4 ∧ m4 < 256 := by rw [hm4]; exact wrap8_bd _
      refine Ix.arr (b := t) (o := 4) (j := 4 + m4.toNat) (by omega) (by omega) (by omega) ?_
      refine Ld.blk (v := .int .u32 (crcTab.getD m4.toNat 0)) hb1 ?_ ?_
      · rw [show 4 + m4.toNat = m4.toNat + 1 + 1 + 1 + 1 from by omega]
        simp only [tabCells, List.getElem?_cons_succ, List.getElem?_map]
        rw [List.getD_eq_getElem?_getD, List.getElem?_eq_getElem (by rw [crcTab_len]; omega)]
        rfl
      refine Bits.any fun m5 hm5 => ?_
      refine Ar.fit64 (by omega) ?_
      refine ⟨i + 1, ⟨rfl, ?_, trivial⟩, ⟨by omega, rfl⟩, by omega⟩
      show Value.int .u32 m5 = Value.int .u32 _
      rw [take_getD (by omega), crcOf, List.foldl_append, List.foldl_cons, List.foldl_nil, crcByte_eq, hm5, hm1, hm4, hm3, hm2]
      rfl
    · have : i = n := by omega
      subst this
      rw [List.take_of_length_le (by omega)]
      exact ⟨rfl, ⟨1, q, x, crcTab, hb1, crcTab_len, .inr ⟨rfl, rfl⟩⟩, ho1⟩
  · refine LoopH.mk (σ := Unit) (fun _ => [(20, .int .i64 0), (1, .int .u32 s)]) (fun _ h2 => h2 = h) (fun _ _ => 0) () ⟨rfl, rfl, trivial⟩ rfl ?_
    rintro _ h2 g rfl
    refine CLt.f (by omega) ?_
    have : bs = [] := List.eq_nil_of_length_eq_zero (by omega)
    subst this
    exact ⟨rfl, hb, Only.refl _ _⟩

theorem Sum_spec (h : H) (t : Nat) (base : Option Addr) (n c : Nat) (bs : List Int) (hb : Tbl h t) (hr : Bytes h base n bs) (hd : ∀ b ∈ blks base, b ≠ t) (hn : n ≤ 2 ^ 47) :
    Fn Pg 115 #[.pointer (some ⟨t, 0, none⟩), .slice base n c] h fun v h' => v = .int .u32 (crcOf 4294967295 bs) ∧ Tbl h' t ∧ Only [t] h h' := by
  refine g115 (args := [_, _]) ?_
  refine (Add_spec h t 4294967295 base n c bs hb hr hd hn).use ?_
  rintro v h1 ⟨rfl, h2⟩
  exact ⟨rfl, h2⟩
end Go.Proofs.YtiabgojnljfmhaaGreat.Ov.W
