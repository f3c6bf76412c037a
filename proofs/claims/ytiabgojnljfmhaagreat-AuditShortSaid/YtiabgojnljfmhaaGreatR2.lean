/-
  RULES FOR STRINGS AND BYTES. No condition: every statement is for every program.
-/
import Derived.Test.YtiabgojnljfmhaaGreatR
namespace Go.Proofs.YtiabgojnljfmhaaGreat.Ov
section
variable {P : Program} {e : Env} {h : H} {k : Value → H → Prop}

/-- The text of bytes. -/
def strOf (bs : List Int) : ByteArray := ⟨(bs.map fun x => UInt8.ofNat x.toNat).toArray⟩
theorem strOf_snoc (bs : List Int) (x : Int) : strOf (bs ++ [x]) = (strOf bs).push (UInt8.ofNat x.toNat) := by
  simp [strOf, ByteArray.push]

def isStr (P : Program) (T : TypeId) : Bool :=
  match P.underlying T with
  | some .string => true
  | _ => false
theorem isStr_out {T : TypeId} (h : isStr P T = true) : P.underlying T = some .string := by
  unfold isStr at h
  split at h
  · assumption
  · cases h
/-- A slice of bytes' type. -/
def isBytes (P : Program) (T : TypeId) : Bool :=
  match P.underlying T with
  | some (.slice el) =>
    match P.underlying el with
    | some (.int .u8) => true
    | _ => false
  | _ => false
theorem isBytes_out {T : TypeId} (h : isBytes P T = true) : ∃ el, P.underlying T = some (.slice el) ∧ P.underlying el = some (.int .u8) := by
  unfold isBytes at h
  split at h
  rotate_left
  · cases h
  rename_i el h1
  split at h
  · exact ⟨el, h1, by assumption⟩
  · cases h

theorem pushes {kk : ByteArray → H → Prop} : ∀ (bs : List Int) (s : ByteArray), kk ⟨s.data ++ (strOf bs).data⟩ h →
    Sm false P (forIn (bs.map (Value.int .u8)) s fun c s => do
      let .int .u8 n := c | stuck "bytesToString: byte expected"
      pure (ForInStep.yield (s.push (UInt8.ofNat n.toNat)))) h kk := by
  intro bs
  induction bs with
  | nil =>
    intro s hk
    refine Sm.pure ?_
    simpa [strOf] using hk
  | cons b r ih =>
    intro s hk
    simp only [List.map_cons, List.forIn_cons, pure_bind]
    refine ih _ ?_
    have : (⟨(s.push (UInt8.ofNat b.toNat)).data ++ (strOf r).data⟩ : ByteArray) = ⟨s.data ++ (strOf (b :: r)).data⟩ := by
      simp [strOf, ByteArray.push]
    rw [this]
    exact hk

/-- Bytes as a text. -/
theorem Raw.b2s {S D ty : TypeId} {x : Operand} {base : Option Addr} {n c : Nat} {bs : List Int} (hS : isBytes P S = true) (hD : isStr P D = true) (hx : ρ e x = .slice base n c) (hr : Nums .u8 h base n bs)
    (hk : k (.string (strOf bs)) h) : Raw P e (.convert S D x) ty h k := by
  obtain ⟨el, h1, h2⟩ := isBytes_out hS
  have h3 := isStr_out hD
  refine Raw.mk ?_
  unfold RawO
  simp only [execOp, hx]
  refine val_of ?_
  unfold convert
  refine Sm.bind (Sm.underlying h1 ?_)
  refine Sm.bind (Sm.underlying h3 ?_)
  cases base with
  | none =>
    have hb : bs = [] := by simpa [Nums, Rds] using hr.2
    subst hb
    refine Sm.bind (Sm.underlying h2 ?_)
    exact Sm.pure hk
  | some a =>
    refine Sm.bind (Sm.underlying h2 ?_)
    unfold Conv.bytesToString
    refine Sm.bind ?_
    refine Sm.loadCells (vs := bs.map (.int .u8)) (by simpa using hr.1) (Row.cellsAt hr.2) ?_
    refine Sm.bind ?_
    simp only [List.forIn_toArray]
    exact (pushes (kk := fun s h' => k (.string s) h') bs ByteArray.empty (by simpa using hk)).mono fun s h' hh => Sm.pure hh

/-- Two texts alike? -/
theorem Raw.eqs {T yt ty : TypeId} {x y : Operand} {a b : ByteArray} (hx : ρ e x = .string a) (hy : ρ e y = .string b) (hk : k (.bool (a.toList == b.toList)) h) : Raw P e (.binOp .eql T x y yt) ty h k := by
  refine Raw.mk ?_
  unfold RawO
  simp only [execOp, hx, hy]
  exact val_of (Sm.bind (Sm.pure (Sm.pure hk)))
theorem strOf_eq : ∀ {as bs : List Int}, (∀ x ∈ as, 0 ≤ x ∧ x < 256) → (∀ x ∈ bs, 0 ≤ x ∧ x < 256) → (strOf as).data.toList = (strOf bs).data.toList → as = bs := by
  intro as
  induction as with
  | nil =>
    intro bs _ _ h1
    cases bs with
    | nil => rfl
    | cons b r => simp [strOf] at h1
  | cons a s ih =>
    intro bs ha hb h1
    cases bs with
    | nil => simp [strOf] at h1
    | cons b r =>
      simp only [strOf, List.map_cons, List.cons.injEq] at h1
      have h2 := ih (bs := r) (fun x hx => ha x (by simp [hx])) (fun x hx => hb x (by simp [hx])) (by simpa [strOf] using h1.2)
      have h3 := congrArg UInt8.toNat h1.1
      have := ha a (by simp)
      have := hb b (by simp)
      simp only [UInt8.toNat_ofNat'] at h3
      rw [h2, show a = b from by omega]
theorem strOf_beq {as bs : List Int} (ha : ∀ x ∈ as, 0 ≤ x ∧ x < 256) (hb : ∀ x ∈ bs, 0 ≤ x ∧ x < 256) : ((strOf as).toList == (strOf bs).toList) = decide (as = bs) := by
  rw [ByteArray.toList_eq, ByteArray.toList_eq]
  by_cases h : as = bs
  · rw [decide_eq_true h, h, beq_self_eq_true]
  · rw [decide_eq_false h, beq_eq_false_iff_ne]; exact fun h' => h (strOf_eq ha hb h')
end
end Go.Proofs.YtiabgojnljfmhaaGreat.Ov
