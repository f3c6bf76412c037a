/-
  RULES FOR OPERATIONS THAT THE SMALL TEXT LEAVES AS THEY ARE. No condition: every statement is for every program.
-/
import Derived.Test.YtiabgojnljfmhaaGreatEx
import Derived.Test.YtiabgojnljfmhaaGreatE
import Derived.Laws.LoneSync
namespace Go.Proofs.YtiabgojnljfmhaaGreat.Ov
section
variable {P : Program} {e : Env} {h : H} {k : Value → H → Prop}

theorem Raw.mk {op : Op} {ty : TypeId} (hr : RawO false P (ρ e) op ty h k) : Raw P e op ty h k := by
  unfold Raw; exact hr

def isPtr (P : Program) (T : TypeId) : Bool :=
  match P.underlying T with
  | some (.pointer _) => true
  | _ => false
theorem isPtr_out {T : TypeId} (h : isPtr P T = true) : ∃ el, P.underlying T = some (.pointer el) := by
  unfold isPtr at h
  split at h
  · exact ⟨_, ‹_›⟩
  · cases h
/-- Is a pointer nil? -/
theorem Raw.nilp {T yt ty : TypeId} {x : Operand} {q : Option Addr} (hT : isPtr P T = true) (hx : ρ e x = .pointer q) (hk : k (.bool q.isNone) h) :
    Raw P e (.binOp .eql T x (.const (.pointer none)) yt) ty h k := by
  obtain ⟨el, hT⟩ := isPtr_out hT
  refine Raw.mk ?_
  unfold RawO
  simp only [execOp, hx]
  rw [show ρ e (.const (.pointer none)) = .pointer none from rfl]
  refine val_of (Sm.bind (Sm.pure ?_))
  refine Sm.bind ?_
  have : Op.equal T (.pointer q) (.pointer none) = Op.equalIn (9999 + 1) T (.pointer q) (.pointer none) := rfl
  rw [this, Op.equalIn]
  refine Sm.bind (Sm.underlying hT ?_)
  cases q with
  | none => exact Sm.pure (Sm.pure hk)
  | some a => exact Sm.pure (Sm.pure hk)

def isBool (P : Program) (T : TypeId) : Bool :=
  match P.underlying T with
  | some .bool => true
  | _ => false
/-- Two truths alike? -/
theorem Raw.eqb {T yt ty : TypeId} {x y : Operand} {a b : Bool} (hT : isBool P T = true) (hx : ρ e x = .bool a) (hy : ρ e y = .bool b) (hk : k (.bool (a == b)) h) : Raw P e (.binOp .eql T x y yt) ty h k := by
  have hT' : P.underlying T = some .bool := by
    unfold isBool at hT
    split at hT
    · assumption
    · cases hT
  refine Raw.mk ?_
  unfold RawO
  simp only [execOp, hx, hy]
  refine val_of (Sm.bind (Sm.pure ?_))
  refine Sm.bind ?_
  have : Op.equal T (.bool a) (.bool b) = Op.equalIn (9999 + 1) T (.bool a) (.bool b) := rfl
  rw [this, Op.equalIn]
  refine Sm.bind (Sm.underlying hT' ?_)
  exact Sm.pure (Sm.pure hk)

/-- A function value is made. -/
theorem Raw.mkf {fn : Go.Fn} {first cap : Array Operand} {ty : TypeId} {a b : List Value} (ha : first.toList.map (ρ e) = a) (hb : cap.toList.map (ρ e) = b) (hk : k (.func fn a.toArray b.toArray) h) : Raw P e (.makeFunc fn first cap) ty h k := by
  subst ha hb
  refine Raw.mk ?_
  unfold RawO
  simp only [execOp]
  have h1 : ∀ l : Array Operand, l.map (ρ e) = (l.toList.map (ρ e)).toArray := fun l => by apply Array.ext'; simp
  rw [h1, h1]
  exact val_of (Sm.pure hk)

/-- A function without a body in Go. -/
def FX (P : Program) (f : FuncId) (args : Array Value) (h : H) (k : Value → H → Prop) : Prop :=
  ∀ w : World, w.heap = h → ∃ v w', (callFunc f args).run P w = .ok (.value v) w' ∧ Rest w w' ∧ k v w'.heap
theorem Raw.fx {f : FuncId} {xs : Array Operand} {ts : Array TypeId} {ty : TypeId} {l : List Value} (ha : xs.toList.map (ρ e) = l) (hx : FX P f l.toArray h k) : Raw P e (.call ⟨.value (.func f), xs, ts⟩) ty h k := by
  subst ha
  refine Raw.mk ?_
  unfold RawO
  simp only [execOp]
  refine Sm.bind (Sm.pure ?_)
  show Sm false P (callFunc f ((#[] ++ xs.map (ρ e)) ++ #[])) h _
  rw [Array.empty_append, Array.append_empty, show xs.map (ρ e) = (xs.toList.map (ρ e)).toArray from by apply Array.ext'; simp]
  intro w hw
  obtain ⟨v, w', hr, hrest, hk⟩ := hx w hw
  exact ⟨_, w', hr, Rel.free hrest, hk⟩

section
variable {f : FuncId} {fn : Func} (hf : P.funcs[f]? = some fn) (hname : (fn.name == "runtime.NumGoroutine") = false) (hb : fn.body.isNone = true) (hn : Extern.findNext fn = none)
include hf hname hb hn
theorem FX.mark0 (m : Mark) (he : Extern.find fn = some (fun _ => do mark m; pure Extern.Race.none_)) (hk : k (.tuple #[]) h) : FX P f #[] h k :=
  fun w hw => ⟨_, w, run_call_mark0 hf hname hb hn m he w, Rest.refl w, hw ▸ hk⟩
theorem FX.marked (m : Addr → Mark) (he : Extern.find fn = some (Extern.Race.marked m)) {a : Addr} (hk : k (.tuple #[]) h) : FX P f #[.pointer (some a)] h k :=
  fun w hw => ⟨_, w, run_call_marked hf hname hb hn m he a w, Rest.refl w, hw ▸ hk⟩
theorem FX.cas (q : IntKind) (he : Extern.find fn = some (Extern.Atomic.casT (.int q))) {a : Addr} {x y : Int} (hc : hcell h a = some (.int q x)) (hz : hfroz h a = false) (hk : k (.bool true) (hset h a (.int q y))) :
    FX P f #[.pointer (some a), .int q x, .int q y] h k :=
  fun w hw => ⟨_, _, run_call_cas_hit hf hname hb hn q he (by rw [cell?_eq, hw]; exact hc) (by rw [frozen?_eq, hw]; exact hz), ⟨rfl, rfl, rfl⟩, by rw [setCell_heap, hw]; exact hk⟩
theorem FX.load (q : IntKind) (he : Extern.find fn = some (Extern.Atomic.loadT (.int q))) {a : Addr} {x : Int} (hc : hcell h a = some (.int q x)) (hk : k (.int q x) h) : FX P f #[.pointer (some a)] h k :=
  fun w hw => ⟨_, w, run_call_load hf hname hb hn q he (by rw [cell?_eq, hw]; exact hc), Rest.refl w, hw ▸ hk⟩
theorem FX.store (q : IntKind) (he : Extern.find fn = some Extern.Atomic.storeT) {a : Addr} {y : Int} {u : Value} (hc : hcell h a = some u) (hz : hfroz h a = false) (hk : k (.tuple #[]) (hset h a (.int q y))) : FX P f #[.pointer (some a), .int q y] h k :=
  fun w hw => ⟨_, _, run_call_store hf hname hb hn he (by rw [cell?_eq, hw]; exact hc) (by rw [frozen?_eq, hw]; exact hz), ⟨rfl, rfl, rfl⟩, by rw [setCell_heap, hw]; exact hk⟩
theorem FX.add (q : IntKind) (he : Extern.find fn = some (Extern.Atomic.update (Op.intArith .add) q true)) {a : Addr} {x y : Int} (hc : hcell h a = some (.int q x)) (hz : hfroz h a = false) (hk : k (.int q (q.wrap (x + y))) (hset h a (.int q (q.wrap (x + y))))) :
    FX P f #[.pointer (some a), .int q y] h k :=
  fun w hw => ⟨_, _, run_call_add hf hname hb hn q he (by rw [cell?_eq, hw]; exact hc) (by rw [frozen?_eq, hw]; exact hz) rfl, ⟨rfl, rfl, rfl⟩, by rw [setCell_heap, hw]; exact hk⟩
end

/-- A function with a body in Go. -/
def enters (P : Program) (f : FuncId) : Bool :=
  match P.funcs[f]? with
  | some fn => fn.body.isSome && fn.name != "runtime.NumGoroutine"
  | none => false
/-- A call of a function value. -/
theorem Raw.callv {f : FuncId} {g : Operand} {xs : Array Operand} {ts : Array TypeId} {ty : TypeId} {first cap : Array Value} {l : List Value} (hf : enters P f = true) (hg : ρ e g = .func (.func f) first cap)
    (ha : first.toList ++ xs.toList.map (ρ e) ++ cap.toList = l) (hx : Fn P f l.toArray h k) : Raw P e (.call ⟨.value g, xs, ts⟩) ty h k := by
  subst ha
  unfold enters at hf
  split at hf
  rotate_left
  · cases hf
  rename_i fn hfn
  simp only [Bool.and_eq_true] at hf
  refine Raw.mk ?_
  unfold RawO
  simp only [execOp]
  have hres : resolve (ρ e) ⟨.value g, xs, ts⟩ ty = pure { target := .fn (.func f) cap, args := first ++ xs.map (ρ e) } := by
    simp only [resolve, hg, Deferred.ofValue]
  rw [hres]
  refine Sm.bind (Sm.pure ?_)
  show Sm false P (callFunc f ((first ++ xs.map (ρ e)) ++ cap)) h _
  unfold callFunc
  refine Sm.bind (Sm.program ?_)
  simp only [hfn]
  have h1 : ¬ (fn.name == "runtime.NumGoroutine") = true := by simpa [bne] using hf.2
  have h2 : ¬ fn.body.isNone = true := by cases hbb : fn.body <;> simp_all
  rw [if_neg h1, if_neg h2]
  refine Sm.pure ⟨rfl, ?_⟩
  have : ((first ++ xs.map (ρ e)) ++ cap : Array Value) = (first.toList ++ xs.toList.map (ρ e) ++ cap.toList).toArray := by
    apply Array.ext'
    simp
  rw [this]
  exact hx

def toUnsafe (P : Program) (src dst : TypeId) : Bool :=
  match P.underlying src, P.underlying dst with
  | some (.pointer t), some .unsafePointer =>
    match P.info? t with
    | some i => !(i.size == 0)
    | none => false
  | _, _ => false
theorem Raw.cvup {src dst ty : TypeId} {x : Operand} {a : Addr} {v : Value} (hT : toUnsafe P src dst = true) (hx : ρ e x = .pointer (some a)) (hc : hcell h a = some v) (hk : k (.pointer (some a)) h) : Raw P e (.convert src dst x) ty h k := by
  unfold toUnsafe at hT
  split at hT
  rotate_left
  · cases hT
  rename_i t h1 h2
  split at hT
  rotate_left
  · cases hT
  rename_i i h3
  refine Raw.mk ?_
  unfold RawO
  simp only [execOp, hx]
  refine val_of ?_
  intro w hw
  refine ⟨_, w, run_convert_to_unsafe h1 h2 ?_ (by rw [cell?_eq, hw]; exact hc), Rel.refl w, hw ▸ hk⟩
  rw [h3]
  simpa using hT

def elem1 (P : Program) (T : TypeId) : Bool :=
  match P.underlying T with
  | some (.slice el) =>
    match P.info? el with
    | some i => i.size == 1
    | none => false
  | _ => false
theorem elem1_out {T : TypeId} (h : elem1 P T = true) : ∃ el i, P.underlying T = some (.slice el) ∧ P.info? el = some i ∧ i.size = 1 := by
  unfold elem1 at h
  split at h
  rotate_left
  · cases h
  rename_i el h1
  split at h
  rotate_left
  · cases h
  rename_i i h2
  exact ⟨el, i, h1, h2, by simpa using h⟩

/-- 'copy' into a slice of numbers of the call's own. -/
theorem Raw.copyOwn {q : IntKind} {x y : Operand} {T U ty : TypeId} {lo : Nat} {base : Option Addr} {n c : Nat} {xs : List Int} {b2 : Option Addr} {n2 c2 : Nat} {ys : List Int} (hT : elem1 P T = true) (hx : ρ e x = .slice base n c) (hy : ρ e y = .slice b2 n2 c2)
    (ho : OwnS h lo base n c 1 (xs.map (.int q))) (hr : Nums q h b2 n2 ys)
    (hk : ∀ h', OwnS h' lo base n c 1 ((ys.take n ++ xs.drop n2).map (.int q)) → Only (blks base) h h' → h'.size = h.size → k (.int .i64 (min n2 n : Nat)) h') : Raw P e (.call ⟨.builtin .copy, #[x, y], #[T, U]⟩) ty h k := by
  obtain ⟨el, i, h1, h2, h3⟩ := elem1_out hT
  have hl := hr.1
  have hxl : xs.length = n := by simpa using ho.1
  refine Raw.mk (builtin_sound (c := ⟨.builtin .copy, #[x, y], #[T, U]⟩) rfl rfl rfl fun _ => val_of ?_)
  simp only [List.map_cons, List.map_nil, hx, hy]
  unfold Builtin.copy_
  simp only [List.getElem?_toArray, List.getElem?_cons_zero, List.getElem?_cons_succ]
  refine Sm.bind (Sm.underlying h1 ?_)
  refine Sm.bind (Sm.pure ?_)
  refine Sm.bind (Sm.sizeOf h2 ?_)
  rw [h3]
  have hcut := hr.take (i := min n2 n) (Nat.min_le_left _ _)
  have hcl := hcut.1
  rw [show Nat.min n2 n = min n2 n from rfl]
  refine Sm.bind (readsAs_firstCells (vs := (ys.take (min n2 n)).map (.int q)) (hcut.2.readsAs (by simp; omega)) ?_)
  have hmin : ys.take (min n2 n) = ys.take n := by
    rw [← hl, ← List.take_take, List.take_of_length_le (by rw [List.length_take]; omega)]
  rcases ho.2 with ⟨rfl, rfl, rfl⟩ | ⟨b, rest, rfl, hb1, hb2, hblk, hlen⟩
  · refine Sm.bind (Sm.pure (Sm.pure ?_))
    refine hk h ?_ (Only.refl _ _) rfl
    have : xs = [] := List.eq_nil_of_length_eq_zero hxl
    subst this
    simpa using ho
  · refine Sm.bind ?_
    refine (Sm.storeCells _ 0 h ?_).mono fun _ h' hh => Sm.pure hh
    refine stN_blk (b := b) _ h 0 0 (xs.map (.int q) ++ rest) hblk (by simp only [List.length_append, List.length_map] at hlen ⊢; omega) (by intro v hv; obtain ⟨x, _, rfl⟩ := List.mem_map.1 hv; rfl) fun h' hb' ho' hs' => ?_
    refine hk h' ?_ ho' hs'
    have hput := putAt_mid ((ys.take (min n2 n)).map (Value.int q)) [] (xs.map (.int q) ++ rest) (by simp only [List.length_append, List.length_map] at hlen ⊢; omega)
    simp only [List.length_nil, List.nil_append] at hput
    rw [show (0 : Nat) + 0 = 0 from rfl, hput, List.drop_append_of_le_length (by simp; omega), ← List.map_drop, ← List.append_assoc, ← List.map_append] at hb'
    have hdrop : xs.drop ((ys.take (min n2 n)).map (Value.int q)).length = xs.drop n2 := by
      simp only [List.length_map, hcl]
      by_cases hle : n2 ≤ n
      · rw [Nat.min_eq_left hle]
      · rw [Nat.min_eq_right (by omega), List.drop_of_length_le (by omega), List.drop_of_length_le (by omega)]
    rw [hdrop, hmin] at hb'
    refine ⟨by simp; omega, .inr ⟨b, rest, rfl, hb1, hb2, hb', ?_⟩⟩
    simp only [List.length_append, List.length_map, List.length_take, List.length_drop] at hlen ⊢
    omega

/-- Stores into a block of one's own. -/
theorem set_blk {b i : Nat} {cs : List Value} {v : Value} {k : H → Prop} (hb : Blk h b cs) (hk : ∀ h', Blk h' b (cs.set i v) → Only [b] h h' → h'.size = h.size → k h') : k (hset h ⟨b, i, none⟩ v) :=
  hk _ (hb.set v) (only_hset h ⟨b, i, none⟩ v) (by simp [hset])

def isArr (P : Program) (T : TypeId) (n : Nat) : Bool :=
  match P.underlying T with
  | some (.array m _) => Nat.beq m n
  | _ => false
/-- A slice as a pointer to an array. -/
theorem Raw.s2a {T ty : TypeId} {x : Operand} {m : Nat} {base : Option Addr} {n c : Nat} (hT : isArr P T m = true) (hx : ρ e x = .slice base n c) (hn : m ≤ n) (hk : k (.pointer base) h) : Raw P e (.sliceToArrayPointer T x) ty h k := by
  unfold isArr at hT
  split at hT
  rotate_left
  · cases hT
  rename_i m' el h1
  have := Nat.eq_of_beq_eq_true hT
  subst this
  refine Raw.mk ?_
  unfold RawO
  simp only [execOp, hx]
  refine val_of ?_
  unfold Instr.arrayAt
  refine Sm.bind (Sm.underlying h1 ?_)
  simp only []
  rw [if_neg (by omega)]
  exact Sm.pure hk
end
end Go.Proofs.YtiabgojnljfmhaaGreat.Ov
