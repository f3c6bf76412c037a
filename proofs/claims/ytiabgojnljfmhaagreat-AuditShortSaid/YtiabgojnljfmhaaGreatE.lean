/-
  WHAT IS SHOWN OF THE SMALL TEXT HOLDS OF THE CODE'S RUN: the operations that make memory, and the whole. No condition: every statement is for every program.
-/
import Derived.Test.YtiabgojnljfmhaaGreatD
namespace Go.Proofs.YtiabgojnljfmhaaGreat.Ov
section
variable {st : Bool} {P : Program} {e : Env} {h : H} {k : Value → H → Prop}

theorem mv_sound {op : Op} {ty : TypeId} {x : Operand} (ho : op = .move x ∨ op = .assign x) (hv : vO P e h k (.mv (opX x))) : RawO st P (ρ e) op ty h k := by
  simp only [vO, ev_opX, force_eq] at hv
  rcases ho with rfl | rfl <;> exact Sm.pure hv

theorem pk_sound {ty : TypeId} {c a b : Operand} (hv : vO P e h k (.pk (opX c) (opX a) (opX b))) : RawO st P (ρ e) (.pick c a b) ty h k := by
  simp only [vO, ev_opX, force_eq] at hv
  unfold RawO
  simp only [execOp]
  split at hv
  · rename_i ec
    rw [ec]
    exact Sm.bind (Sm.pure (Sm.pure hv))
  · rename_i ec
    rw [ec]
    exact Sm.bind (Sm.pure (Sm.pure hv))
  · exact hv.elim

theorem not_sound {t ty : TypeId} {x : Operand} (hv : vO P e h k (.not (opX x))) : RawO st P (ρ e) (.unOp .not t x) ty h k := by
  simp only [vO, ev_opX] at hv
  unfold RawO
  simp only [execOp]
  split at hv
  · rename_i b ex
    rw [ex]
    exact val_of (Sm.pure hv)
  · exact hv.elim
theorem neg_sound {t ty : TypeId} {x : Operand} (hv : vO P e h k (.neg (opX x))) : RawO st P (ρ e) (.unOp .neg t x) ty h k := by
  simp only [vO, ev_opX] at hv
  unfold RawO
  simp only [execOp]
  split at hv
  · rename_i q n ex
    rw [ex]
    unfold Ar at hv
    exact val_of (Sm.pure hv)
  · exact hv.elim
theorem cv_sound {s d ty : TypeId} {q : IntKind} {x : Operand} {ds : TypeDesc} (hs : P.underlying s = some ds) (hd : P.underlying d = some (.int q)) (hv : vO P e h k (.cv q (opX x))) : RawO st P (ρ e) (.convert s d x) ty h k := by
  simp only [vO, ev_opX] at hv
  unfold RawO
  simp only [execOp]
  split at hv
  · rename_i q' n ex
    rw [ex]
    unfold Ar at hv
    refine val_of ?_
    unfold convert
    refine Sm.bind (Sm.underlying hs ?_)
    refine Sm.bind (Sm.underlying hd ?_)
    exact Sm.pure hv
  · exact hv.elim

theorem s2a_sound {t ty : TypeId} {x : Operand} {n : Nat} {el : TypeId} (ht : P.underlying t = some (.array n el)) (hv : vO P e h k (.s2a (opX x) n)) : RawO st P (ρ e) (.sliceToArrayPointer t x) ty h k := by
  simp only [vO, ev_opX] at hv
  unfold RawO
  simp only [execOp]
  split at hv
  · rename_i a m c ex
    rw [ex]
    unfold S2a at hv
    refine val_of ?_
    unfold Instr.arrayAt
    refine Sm.bind (Sm.underlying ht ?_)
    simp only []
    rw [if_neg (by omega)]
    exact Sm.pure hv.2
  · exact hv.elim
theorem mrk_sound {s ty : TypeId} {x : Operand} {e1 el : TypeId} (hs : P.underlying s = some (.slice e1)) (hd : P.underlying s = some (.slice el)) (he : P.underlying el = some (.int .u8)) (hv : vO P e h k (.mrk (opX x))) : RawO false P (ρ e) (.convert s s x) ty h k := by
  simp only [vO, ev_opX] at hv
  unfold RawO
  simp only [execOp]
  split at hv
  · rename_i a n c ex
    rw [ex]
    unfold Mrk at hv
    obtain ⟨cs, T, fz, hb, hv⟩ := hv
    refine val_of ?_
    unfold convert
    refine Sm.bind (Sm.underlying hd ?_)
    refine Sm.bind (Sm.underlying hd ?_)
    simp only [beq_self_eq_true]
    refine Sm.bind (Sm.underlying he ?_)
    exact Sm.bind (Sm.stringish (x := false) hb (Sm.pure hv))
  · exact hv.elim

theorem ex_sound {ty : TypeId} {x : Operand} {i : Nat} (hv : vO P e h k (.ex (opX x) i)) : RawO st P (ρ e) (.extract x i) ty h k := by
  simp only [vO, ev_opX] at hv
  unfold RawO
  simp only [execOp]
  split at hv
  · rename_i vs ex
    rw [ex]
    split at hv
    · rename_i v hn
      rw [force_eq] at hv
      refine val_of ?_
      unfold Instr.extract
      simp only [show vs[i]? = some v from by rw [← nth_arr]; exact hn]
      exact Sm.pure hv
    · exact hv.elim
  · exact hv.elim

theorem New_out {o : Obj} {kk : Nat → H → Prop} (hn : New h o kk) : kk h.size (h.push o) := by unfold New at hn; exact hn

theorem bx_sound {ty T : TypeId} {x : Operand} (hv : vO P e h k (.bx T (opX x))) : RawO false P (ρ e) (.box T x) ty h k := by
  simp only [vO, ev_opX, force_eq] at hv
  have hk := New_out hv
  unfold RawO
  simp only [execOp]
  refine val_of (Sm.bind (Sm.bind (Sm.newObj (Sm.pure ?_))))
  rw [cellsOf_eq] at hk
  exact Sm.pure hk

theorem al_sound {ty T : TypeId} {i : TypeInfo} {z : Value} (hi : P.info? T = some i) (hz : i.zero = some z) (hv : vO P e h k (.al T (cellsOf z))) : RawO false P (ρ e) (.alloc T) ty h k := by
  simp only [vO] at hv
  have hk := New_out hv
  unfold RawO
  simp only [execOp]
  refine val_of ?_
  unfold Instr.alloc
  refine Sm.bind (Sm.zeroValue hi hz ?_)
  refine Sm.bind (Sm.bind (Sm.newObj (Sm.pure ?_)))
  rw [cellsOf_eq] at hk
  exact Sm.pure hk

theorem builtin_sound {ty : TypeId} {b : Builtin} {c : Call} {xs : List Operand} {ts : List TypeId} (hc : c.callee = .builtin b) (ha : c.args.toList = xs) (ht : c.argTypes.toList = ts)
    (hs : ∀ consts, Sm st P (builtin b ts.toArray ty consts (xs.map (ρ e)).toArray) h (okN st P k)) : RawO st P (ρ e) (.call c) ty h k := by
  obtain ⟨callee, args, argTypes⟩ := c
  simp only at hc ha ht
  subst hc
  have ha' : args = xs.toArray := by apply Array.ext'; simpa using ha
  have ht' : argTypes = ts.toArray := by apply Array.ext'; simpa using ht
  subst ha' ht'
  unfold RawO
  simp only [execOp]
  refine Sm.bind (Sm.pure ?_)
  simp only [List.map_toArray]
  exact hs _

theorem len_sound {ty t : TypeId} {x : Operand} {c : Call} (hc : c.callee = .builtin .len) (ha : c.args.toList = [x]) (ht : c.argTypes.toList = [t])
    {el : TypeId} (hu : P.underlying t = some (.slice el)) (hv : vO P e h k (.len (opX x))) : RawO st P (ρ e) (.call c) ty h k := by
  simp only [vO, ev_opX] at hv
  refine builtin_sound hc ha ht fun _ => ?_
  simp only [List.map_cons, List.map_nil]
  refine val_of (Sm.bind (Sm.underlying hu ?_))
  generalize ρ e x = u at hv ⊢
  cases u <;> first | exact hv.elim | exact Sm.pure hv
theorem lens_sound {ty t : TypeId} {x : Operand} {c : Call} (hc : c.callee = .builtin .len) (ha : c.args.toList = [x]) (ht : c.argTypes.toList = [t])
    (hu : P.underlying t = some .string) (hv : vO P e h k (.lens (opX x))) : RawO st P (ρ e) (.call c) ty h k := by
  simp only [vO, ev_opX] at hv
  refine builtin_sound hc ha ht fun _ => ?_
  simp only [List.map_cons, List.map_nil]
  refine val_of (Sm.bind (Sm.underlying hu ?_))
  generalize ρ e x = u at hv ⊢
  cases u <;> first | exact hv.elim | exact Sm.pure hv
theorem lena_sound {ty t : TypeId} {x : Operand} {c : Call} {n : Nat} {el : TypeId} (hc : c.callee = .builtin .len) (ha : c.args.toList = [x]) (ht : c.argTypes.toList = [t])
    (hu : P.underlying t = some (.array n el)) (hv : vO P e h k (.mv (.i n))) : RawO st P (ρ e) (.call c) ty h k := by
  simp only [vO, Env.ev, force_eq] at hv
  refine builtin_sound hc ha ht fun _ => val_of ?_
  refine Sm.bind (Sm.underlying hu ?_)
  generalize ρ e x = u
  cases u <;> exact Sm.pure hv

theorem min2_sound {q q' : IntKind} {a b : Int} {kk : Value → H → Prop} (hk : kk (.int q (min a b)) h) : Sm st P (Builtin.min2 (.int q a) (.int q' b)) h kk := by
  have : (if b < a then b else a) = min a b := by split <;> omega
  show Sm st P (pure (.int q (if b < a then b else a))) h kk
  rw [this]; exact Sm.pure hk
theorem max2_sound {q q' : IntKind} {a b : Int} {kk : Value → H → Prop} (hk : kk (.int q (max a b)) h) : Sm st P (Builtin.max2 (.int q a) (.int q' b)) h kk := by
  have : (if b > a then b else a) = max a b := by split <;> omega
  show Sm st P (pure (.int q (if b > a then b else a))) h kk
  rw [this]; exact Sm.pure hk

theorem mm_sound {ty : TypeId} {x y : Operand} {ts : List TypeId} {c : Call} {mx : Bool} (hc : c.callee = .builtin (bif mx then .max else .min)) (ha : c.args.toList = [x, y]) (ht : c.argTypes.toList = ts)
    (hv : vO P e h k (.mm mx (opX x) (opX y))) : RawO st P (ρ e) (.call c) ty h k := by
  simp only [vO, ev_opX] at hv
  split at hv
  · rename_i q a q' b ex ey
    cases mx with
    | false =>
      refine builtin_sound hc ha ht fun _ => val_of ?_
      simp only [List.map_cons, List.map_nil, ex, ey]
      exact Sm.bind (min2_sound (Sm.pure hv))
    | true =>
      refine builtin_sound hc ha ht fun _ => val_of ?_
      simp only [List.map_cons, List.map_nil, ex, ey]
      exact Sm.bind (max2_sound (Sm.pure hv))
  · exact hv.elim
theorem mm3_sound {ty : TypeId} {x y z : Operand} {ts : List TypeId} {c : Call} {mx : Bool} (hc : c.callee = .builtin (bif mx then .max else .min)) (ha : c.args.toList = [x, y, z]) (ht : c.argTypes.toList = ts)
    (hv : vO P e h k (.mm3 mx (opX x) (opX y) (opX z))) : RawO st P (ρ e) (.call c) ty h k := by
  simp only [vO, ev_opX] at hv
  split at hv
  · rename_i q a q' b q'' d ex ey ez
    cases mx with
    | false =>
      refine builtin_sound hc ha ht fun _ => val_of ?_
      simp only [List.map_cons, List.map_nil, ex, ey, ez]
      exact Sm.bind (min2_sound (Sm.bind (min2_sound (Sm.pure hv))))
    | true =>
      refine builtin_sound hc ha ht fun _ => val_of ?_
      simp only [List.map_cons, List.map_nil, ex, ey, ez]
      exact Sm.bind (max2_sound (Sm.bind (max2_sound (Sm.pure hv))))
  · exact hv.elim

theorem call_sound {ty : TypeId} {f : Nat} {fn : Func} {c : Call} (hc : c.callee = .value (.func f)) (hf : P.funcs[f]? = some fn) (hb : fn.body.isSome = true) (hn : (fn.name != "runtime.NumGoroutine") = true)
    (hv : vO P e h k (.call f (c.args.toList.map opX))) : RawO false P (ρ e) (.call c) ty h k := by
  simp only [vO, forceL_eq, List.map_map] at hv
  obtain ⟨callee, args, argTypes⟩ := c
  simp only at hc hv
  subst hc
  unfold RawO
  simp only [execOp]
  refine Sm.bind (Sm.pure ?_)
  show Sm false P (callFunc f ((#[] ++ args.map (ρ e)) ++ #[])) h _
  unfold callFunc
  refine Sm.bind (Sm.program ?_)
  simp only [hf]
  have h1 : ¬ (fn.name == "runtime.NumGoroutine") = true := by simpa [bne] using hn
  have h2 : ¬ fn.body.isNone = true := by cases hbb : fn.body <;> simp_all
  rw [if_neg h1, if_neg h2]
  refine Sm.pure ⟨rfl, ?_⟩
  have : ((#[] ++ args.map (ρ e)) ++ #[] : Array Value) = (args.toList.map (e.ev ∘ opX)).toArray := by
    apply Array.ext'
    simp only [Array.empty_append, Array.append_empty, Array.toList_map]
    congr 1
    funext x
    exact (ev_opX e x).symm
  rw [this]
  exact hv

/-! ### append -/
theorem readsAs_firstCells {base : Option Addr} {len cap n size : Nat} {vs : List Value} {kk : Array Value → H → Prop} (hr : readsAs h base (n * size) vs) (hk : kk vs.toArray h) :
    Sm false P (Builtin.firstCells size n (.slice base len cap)) h kk := by
  cases base with
  | none =>
    simp only [readsAs] at hr
    subst hr
    exact Sm.pure hk
  | some a => exact Sm.loadCells hr.1 hr.2 hk

theorem app_sound {ty t u elem el2 : TypeId} {x y : Operand} {i : TypeInfo} {z : Value} {c : Call} (hc : c.callee = .builtin .append) (ha : c.args.toList = [x, y]) (ht : c.argTypes.toList = [t, u])
    (hu : P.underlying t = some (.slice elem)) (hu2 : P.underlying u = some (.slice el2)) (hi : P.info? elem = some i) (hz : i.zero = some z)
    (hv : vO P e h k (.app (opX x) (opX y) elem i.size i.bytes (cellsOf z))) : RawO false P (ρ e) (.call c) ty h k := by
  simp only [vO, ev_opX] at hv
  split at hv
  · rename_i base len cap b2 n2 c2 ex ey
    unfold App at hv
    obtain ⟨new, hnew, hin, hout⟩ := hv
    refine builtin_sound hc ha ht fun _ => val_of ?_
    simp only [List.map_cons, List.map_nil, ex, ey]
    unfold Builtin.append_
    simp only [List.getElem?_toArray, List.getElem?_cons_zero, List.getElem?_cons_succ]
    refine Sm.bind (Sm.underlying hu ?_)
    simp only []
    refine Sm.bind (Sm.sizeOf hi ?_)
    refine Sm.bind (Sm.underlying hu2 ?_)
    refine Sm.bind (Sm.pure ?_)
    simp only [Bool.false_eq_true, if_false]
    refine Sm.bind ?_
    refine Sm.pure ?_
    by_cases hle : len + n2 ≤ cap
    · rw [if_pos hle]
      refine Sm.bind ?_
      refine readsAs_firstCells hnew ?_
      have := hin hle
      cases base with
      | none => exact Sm.bind (Sm.pure (Sm.pure this))
      | some a =>
        refine Sm.bind ?_
        exact (Sm.storeCells new 0 h this).mono fun _ _ hk => Sm.pure hk
    · rw [if_neg hle]
      obtain ⟨hb0, hb, old, hold, hk⟩ := hout (by omega)
      refine Sm.bind (Sm.typeInfo hi ?_)
      rw [if_neg (by simp; intro; simpa using hb0)]
      refine Sm.bind (Sm.typeInfo hi ?_)
      rw [if_neg (by omega)]
      refine Sm.bind (Sm.choose (by intro hq; simp [Question.forced] at hq) fun _ r => ?_)
      refine Sm.bind (Sm.typeInfo hi ?_)
      refine Sm.bind (Sm.askRoom ?_)
      refine Sm.bind (readsAs_firstCells hold ?_)
      refine Sm.bind (readsAs_firstCells hnew ?_)
      refine Sm.bind (Sm.zeroValue hi hz ?_)
      refine Sm.bind (Sm.bind (Sm.newObj (Sm.pure ?_)))
      refine Sm.pure ?_
      have := hk ((Question.appendCap (len + n2) cap elem).cut r) (by simp [Question.cut])
      rw [cellsOf_eq] at this
      exact this
  · exact hv.elim
end
end Go.Proofs.YtiabgojnljfmhaaGreat.Ov
