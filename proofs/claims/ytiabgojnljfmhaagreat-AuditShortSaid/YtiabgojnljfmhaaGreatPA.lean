/-
  THE CHECKSUM: ITS TABLE. No condition beyond each statement's own.
-/
import Derived.Test.YtiabgojnljfmhaaGreatP9
namespace Go.Proofs.YtiabgojnljfmhaaGreat.Ov.W

/-! ### The checksum's table -/
/-- One digit. -/
def crc1 (s : Int) : Int :=
  if s.fdiv (2 ^ min 31 IntKind.u32.bits) = 1 then bitsV .xor .u32 (IntKind.u32.wrap (s * 2 ^ min 1 IntKind.u32.bits)) 79764919 else IntKind.u32.wrap (s * 2 ^ min 1 IntKind.u32.bits)
def crcN : Nat → Int → Int
  | 0, s => s
  | n + 1, s => crc1 (crcN n s)
@[irreducible] def crcStep (s : Int) : Int := crcN 8 s
theorem crcStep_eq (s : Int) : crcStep s = crcN 8 s := by unfold crcStep; rfl
theorem step_spec (h : H) (s : Int) : Fn Pg 190 #[.int .u32 s] h fun v h' => v = .int .u32 (crcStep s) ∧ h' = h := by
  refine g190 (args := [_]) ?_
  refine LoopH.mk (σ := Nat) (fun i => [(4, .int .i64 i), (0, .int .u32 (crcN i s))]) (fun i h2 => i ≤ 8 ∧ h2 = h) (fun i _ => 8 - i) 0 ⟨rfl, rfl, trivial⟩ ⟨by omega, rfl⟩ ?_
  rintro i h2 g ⟨hi, rfl⟩
  refine CLt.mk (fun hlt => ?_) (fun hge => ?_)
  · refine Shr.any (by omega) fun m hm => ?_
    refine Shl.any (by omega) fun m2 hm2 => ?_
    refine CEq.mk (fun he => ?_) (fun he => ?_)
    · refine Bits.any fun m3 hm3 => ?_
      refine Ar.fit64 (by omega) ?_
      refine ⟨i + 1, ⟨rfl, ?_, trivial⟩, ⟨by omega, rfl⟩, by omega⟩
      show Value.int _ _ = Value.int _ _
      rw [crcN, crc1, if_pos (by rw [← he, hm]; rfl), hm3, hm2]
      rfl
    · refine Ar.fit64 (by omega) ?_
      refine ⟨i + 1, ⟨rfl, ?_, trivial⟩, ⟨by omega, rfl⟩, by omega⟩
      show Value.int _ _ = Value.int _ _
      rw [crcN, crc1, if_neg (by intro h; apply he; rw [← h, hm]; rfl), hm2]
      rfl
  · have : i = 8 := by omega
    subst this
    exact ⟨by rw [crcStep_eq]; rfl, rfl⟩

@[irreducible] def tabAt (i : Nat) : Int := crcStep (IntKind.u32.wrap (IntKind.u32.wrap (i : Int) * 2 ^ min 24 IntKind.u32.bits))
theorem tabAt_eq (i : Nat) : tabAt i = crcStep (IntKind.u32.wrap (IntKind.u32.wrap (i : Int) * 2 ^ min 24 IntKind.u32.bits)) := by unfold tabAt; rfl
@[irreducible] def crcTab : List Int := (List.range 256).map tabAt
theorem crcTab_len : crcTab.length = 256 := by unfold crcTab; simp
theorem crcTab_at {i : Nat} (hi : i < 256) : crcTab.getD i 0 = tabAt i := by
  unfold crcTab
  rw [List.getD_eq_getElem?_getD, List.getElem?_map, List.getElem?_range hi, Option.map_some, Option.getD_some]
/-- A table's cells. -/
def tabCells (d m q : Value) (x : Bool) (ls : List Int) : List Value := d :: m :: q :: .bool x :: ls.map (.int .u32)

theorem fill_spec (h : H) (t : Nat) (d m q : Value) (x : Bool) (ls : List Int) (hb : Blk h t (tabCells d m q x ls)) (hl : ls.length = 256) :
    Fn Pg 167 #[.pointer (some ⟨t, 0, none⟩)] h fun v h' => v = .tuple #[] ∧ Blk h' t (tabCells d m q true crcTab) ∧ Only [t] h h' := by
  have hcl := crcTab_len
  refine g167 (args := [_]) ?_
  refine LoopH.mk (σ := Nat) (fun i => [(3, .int .i64 i)]) (fun i h2 => i ≤ 256 ∧ Blk h2 t (tabCells d m q x (crcTab.take i ++ ls.drop i)) ∧ Only [t] h h2) (fun i _ => 256 - i) 0 ⟨rfl, trivial⟩ ⟨by omega, by simpa using hb, Only.refl _ _⟩ ?_
  rintro i h2 g ⟨hi, hb2, ho2⟩
  refine CLt.mk (fun hlt => ?_) (fun hge => ?_)
  · refine Ar.any fun m1 hm1 => ?_
    refine Shl.any (by omega) fun m2 hm2 => ?_
    refine (step_spec h2 m2).use ?_
    rintro v h3 ⟨rfl, rfl⟩
    refine Ix.arr (b := t) (o := 4) (j := 4 + i) (by omega) (by omega) (by omega) ?_
    refine St.blk hb2 (by simp [tabCells]; omega) rfl fun h4 hb4 ho4 _ => ?_
    refine Ar.fit64 (by omega) ?_
    refine ⟨i + 1, ⟨rfl, trivial⟩, ⟨by omega, ?_, ho2.trans ho4⟩, by omega⟩
    have hv : crcStep m2 = crcTab.getD i 0 := by
      rw [crcTab_at (by omega), tabAt_eq, hm2, hm1]
      rfl
    have hset : (tabCells d m q x (crcTab.take i ++ ls.drop i)).set (4 + i) (.int .u32 (crcStep m2)) = tabCells d m q x (crcTab.take (i + 1) ++ ls.drop (i + 1)) := by
      rw [show 4 + i = i + 1 + 1 + 1 + 1 from by omega]
      simp only [tabCells, List.set_cons_succ]
      rw [take_getD (by omega), ← hv, List.map_append, List.set_append_right _ _ (by simp; omega)]
      have h0 : i - (List.map (Value.int .u32) (crcTab.take i)).length = 0 := by simp; omega
      have hd : (ls.drop i).map (Value.int .u32) = Value.int .u32 (ls[i]'(by omega)) :: (ls.drop (i + 1)).map (Value.int .u32) := by
        rw [List.drop_eq_getElem_cons (by omega), List.map_cons]
      rw [h0, hd, List.set_cons_zero, List.map_append, List.map_append, List.map_cons, List.map_nil, List.append_assoc, List.singleton_append]
    rw [hset] at hb4
    exact hb4
  · have : i = 256 := by omega
    subst this
    rw [List.take_of_length_le (by omega), List.drop_of_length_le (by omega), List.append_nil] at hb2
    refine St.blk hb2 (by simp [tabCells]) rfl fun h4 hb4 ho4 _ => ?_
    exact ⟨rfl, hb4, ho2.trans ho4⟩
end Go.Proofs.YtiabgojnljfmhaaGreat.Ov.W
