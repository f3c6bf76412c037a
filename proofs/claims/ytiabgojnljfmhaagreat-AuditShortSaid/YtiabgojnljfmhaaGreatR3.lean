/-
  RULES FOR MAPS, AND FOR A STRING's BYTES. No condition: every statement is for every program.
-/
import Derived.Test.YtiabgojnljfmhaaGreatR2
namespace Go.Proofs.YtiabgojnljfmhaaGreat.Ov
section
variable {P : Program} {e : Env} {h : H} {k : Value → H → Prop}

/-- A new map. -/
theorem Raw.mkmap {t ty : TypeId} (hk : ∀ h', h'.size = h.size + 1 → h'[h.size]? = some (.map #[] 0) → Only [] h h' → k (.map (some h.size)) h') : Raw P e (.makeMap t none) ty h k := by
  refine Raw.mk ?_
  unfold RawO
  simp only [execOp]
  refine val_of ?_
  unfold Instr.makeMap
  refine Sm.bind (Sm.newObj (Sm.pure ?_))
  exact hk _ (by simp) (by simp) ⟨by simp, fun b hb _ => by rw [Array.getElem?_push, if_neg (by omega)]⟩

def isMap (P : Program) (T : TypeId) : Bool :=
  match P.underlying T with
  | some (.map _ _) => true
  | _ => false
theorem isMap_out {T : TypeId} (h : isMap P T = true) : ∃ a b, P.underlying T = some (.map a b) := by
  unfold isMap at h
  split at h
  · exact ⟨_, _, by assumption⟩
  · cases h
/-- A walk over a map begins. -/
theorem Raw.rangeM {t ty : TypeId} {x : Operand} {m c : Nat} {es : Array MapEntry} (hT : isMap P t = true) (hx : ρ e x = .map (some m)) (hm : h[m]? = some (.map es c))
    (hk : ∀ h', h'.size = h.size + 1 → h'[h.size]? = some (.mapIter (some m) c #[] c) → Only [] h h' → k (.pointer (some ⟨h.size, 0, none⟩)) h') : Raw P e (.range t x) ty h k := by
  obtain ⟨a, b, hu⟩ := isMap_out hT
  refine Raw.mk ?_
  unfold RawO
  simp only [execOp, hx]
  refine val_of ?_
  unfold Instr.range
  refine Sm.bind (Sm.underlying hu ?_)
  refine Sm.bind (Sm.getObj hm (fun _ _ _ h => by cases h) ?_)
  refine Sm.bind (Sm.pure ?_)
  refine Sm.bind (Sm.newObj (Sm.pure ?_))
  exact hk _ (by simp) (by simp) ⟨by simp, fun b hb _ => by rw [Array.getElem?_push, if_neg (by omega)]⟩
/-- A walk over a map without entries ends at once. -/
theorem Raw.next0 {ty : TypeId} {x : Operand} {r m c since last : Nat} (hx : ρ e x = .pointer (some ⟨r, 0, none⟩)) (hi : h[r]? = some (.mapIter (some m) since #[] last)) (hm : h[m]? = some (.map #[] c))
    (hk : k (.tuple #[.bool false]) h) : Raw P e (.next x false) ty h k := by
  refine Raw.mk ?_
  unfold RawO
  simp only [execOp, hx]
  refine val_of ?_
  unfold Instr.next
  refine Sm.bind (Sm.getObj hi (fun _ _ _ h => by cases h) ?_)
  refine Sm.bind (Sm.getObj hm (fun _ _ _ h => by cases h) ?_)
  have hf : ∀ p : MapEntry → Bool, (#[] : Array MapEntry).filter p = #[] := fun p => by simp
  simp only [hf]
  refine Sm.bind (Sm.choose (fun _ => ?_) (fun h => ?_))
  · have hc : ((if (#[] : Array MapEntry).isEmpty = true then #[none] else #[]) ++ Array.map some ((#[] : Array MapEntry) ++ #[]))[0]? = some none := by simp
    rw [hc]
    exact Sm.pure hk
  · simp [Question.forced] at h

/-- A byte of a text. -/
theorem Raw.idxs {t ty : TypeId} {x i : Operand} {s : ByteArray} {q : IntKind} {n : Int} {b : UInt8} (hT : isStr P t = true) (hx : ρ e x = .string s) (hi : ρ e i = .int q n) (h0 : 0 ≤ n) (hb : s[n.toNat]? = some b)
    (hk : k (.int .u8 b.toNat) h) : Raw P e (.index t x i) ty h k := by
  have hu := isStr_out hT
  refine Raw.mk ?_
  unfold RawO
  simp only [execOp, hx, hi]
  refine val_of ?_
  unfold Instr.index
  refine Sm.bind (Sm.pure ?_)
  refine Sm.bind (Sm.underlying hu ?_)
  simp only []
  rw [if_pos h0, hb]
  exact Sm.pure hk
end
end Go.Proofs.YtiabgojnljfmhaaGreat.Ov
