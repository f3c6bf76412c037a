/-
  THE GROUND OF THIS CLAIM'S PROOFS: what a run does to the heap alone. No condition: every statement here is for every program.
  'Sm' is a piece of the machine's own effects run from a heap; 'Fn' is a call of a function from a heap, whatever the rest of the world is.
-/
import Derived.Calls
import Derived.Orders
import Derived.Below
import Derived.Laws.Sem
import Derived.Laws.World
namespace Go.Proofs.YtiabgojnljfmhaaGreat.Ov

abbrev H := Array Obj

/-- The cell at an address. -/
def hcell (h : H) (a : Addr) : Option Value :=
  match h[a.block]? with
  | some (.cells c _ _) => if a.spot.isSome then none else c[a.off]?
  | _ => none

/-- May the cell not be written? -/
def hfroz (h : H) (a : Addr) : Bool :=
  match h[a.block]? with
  | some (.cells _ _ (lo, hi)) => lo ≤ a.off && a.off < hi
  | _ => false

def hset (h : H) (a : Addr) (v : Value) : H :=
  h.modify a.block fun
    | .cells c elem frozen => .cells (if a.spot.isSome then c else c.setIfInBounds a.off v) elem frozen
    | o => o

theorem cell?_eq (w : World) (a : Addr) : w.cell? a = hcell w.heap a := rfl
theorem frozen?_eq (w : World) (a : Addr) : w.frozen? a = hfroz w.heap a := rfl
theorem setCell_heap (w : World) (a : Addr) (v : Value) : (w.setCell a v).heap = hset w.heap a v := rfl

/-- All that is not the heap, nor the count of draws, is as it was. -/
structure Rest (w w' : World) : Prop where
  os : w'.os = w.os
  tape : w'.tape = w.tape
  output : w'.output = w.output
theorem Rest.refl (w : World) : Rest w w := ⟨rfl, rfl, rfl⟩
theorem Rest.trans {a b c : World} (h : Rest a b) (k : Rest b c) : Rest a c :=
  ⟨k.os.trans h.os, k.tape.trans h.tape, k.output.trans h.output⟩

/-- As 'Rest'; and, where x is set, the very world in which it began. -/
structure Rel (x : Bool) (w w' : World) : Prop where
  rest : Rest w w'
  same : x = true → w' = w
theorem Rel.refl {x : Bool} (w : World) : Rel x w w := ⟨Rest.refl w, fun _ => rfl⟩
theorem Rel.trans {x : Bool} {a b c : World} (h : Rel x a b) (k : Rel x b c) : Rel x a c := ⟨h.rest.trans k.rest, fun hx => (k.same hx).trans (h.same hx)⟩
theorem Rel.free {w w' : World} (h : Rest w w') : Rel false w w' := ⟨h, fun h => by cases h⟩

/-- A piece of effects, run from any world with this heap, ends without a panic, and k holds of what it gives and of the heap behind it. -/
def Sm {α : Type} (x : Bool) (P : Program) (s : Sem α) (h : H) (k : α → H → Prop) : Prop :=
  ∀ w : World, w.heap = h → ∃ a w', s.run P w = .ok a w' ∧ Rel x w w' ∧ k a w'.heap

/-- A call of function f from any world with this heap returns a value, and R holds of it and of the heap behind it. -/
@[irreducible] def Fn (P : Program) (f : FuncId) (args : Array Value) (h : H) (R : Value → H → Prop) : Prop :=
  ∀ w : World, w.heap = h → Calls P f args w fun e w' => ∃ v, e = .returned v ∧ Rest w w' ∧ R v w'.heap

theorem Fn.out {P : Program} {f : FuncId} {args : Array Value} {h : H} {R : Value → H → Prop} (hf : Fn P f args h R) (w : World) (hw : w.heap = h) :
    Calls P f args w fun e w' => ∃ v, e = .returned v ∧ Rest w w' ∧ R v w'.heap := by
  unfold Fn at hf; exact hf w hw
theorem Fn.intro {P : Program} {f : FuncId} {args : Array Value} {h : H} {R : Value → H → Prop} (hf : ∀ w : World, w.heap = h →
    Calls P f args w fun e w' => ∃ v, e = .returned v ∧ Rest w w' ∧ R v w'.heap) : Fn P f args h R := by
  unfold Fn; exact hf

theorem Fn.mono {P : Program} {f : FuncId} {args : Array Value} {h : H} {R R' : Value → H → Prop}
    (hf : Fn P f args h R) (hr : ∀ v h', R v h' → R' v h') : Fn P f args h R' :=
  .intro fun w hw => (hf.out w hw).mono fun _ _ ⟨v, he, hs, h1⟩ => ⟨v, he, hs, hr _ _ h1⟩

section
variable {α β : Type} {x : Bool} {P : Program} {h : H}

theorem Sm.mono {s : Sem α} {k k' : α → H → Prop} (hs : Sm x P s h k) (hk : ∀ a h', k a h' → k' a h') : Sm x P s h k' :=
  fun w hw => let ⟨a, w', hr, hrest, h1⟩ := hs w hw; ⟨a, w', hr, hrest, hk _ _ h1⟩

theorem Sm.pure {a : α} {k : α → H → Prop} (hk : k a h) : Sm x P (Pure.pure a) h k :=
  fun w hw => ⟨a, w, rfl, Rel.refl w, hw ▸ hk⟩

theorem Sm.bind {s : Sem α} {f : α → Sem β} {k : β → H → Prop} (hs : Sm x P s h fun a h' => Sm x P (f a) h' k) : Sm x P (s >>= f) h k := by
  intro w hw
  obtain ⟨a, w1, hr, hrest, h1⟩ := hs w hw
  obtain ⟨b, w2, hr2, hrest2, h2⟩ := h1 w1 rfl
  refine ⟨b, w2, ?_, hrest.trans hrest2, h2⟩
  rw [Sem.run_bind, hr, Result.andThen_ok, hr2]

theorem Sm.map {s : Sem α} {f : α → β} {k : β → H → Prop} (hs : Sm x P s h fun a h' => k (f a) h') : Sm x P (f <$> s) h k := by
  intro w hw
  obtain ⟨a, w1, hr, hrest, h1⟩ := hs w hw
  exact ⟨f a, w1, by rw [Sem.run_map, hr, Result.andThen_ok], hrest, h1⟩

theorem Sm.ite {c : Prop} [Decidable c] {s t : Sem α} {k : α → H → Prop} (h1 : c → Sm x P s h k) (h2 : ¬ c → Sm x P t h k) : Sm x P (if c then s else t) h k := by
  split
  · exact h1 ‹_›
  · exact h2 ‹_›

theorem Sm.load {a : Addr} {m : Mode} {v : Value} {k : Value → H → Prop} (hc : hcell h a = some v) (hk : k v h) : Sm x P (load a m) h k := by
  intro w hw
  subst hw
  refine ⟨v, w, ?_, Rel.refl w, hk⟩
  rw [run_load, cell?_eq, hc]

theorem Sm.store {a : Addr} {m : Mode} {v u : Value} {k : Unit → H → Prop} (hv : v.oneCell' = true) (hc : hcell h a = some u) (hf : hfroz h a = false)
    (hk : k () (hset h a v)) : Sm false P (store a v m) h k := by
  intro w hw
  subst hw
  refine ⟨(), w.setCell a v, ?_, Rel.free ⟨rfl, rfl, rfl⟩, hk⟩
  rw [run_store P w a v m hv, cell?_eq, hc]
  simp [frozen?_eq, hf]

theorem Sm.newObj {o : Obj} {k : Nat → H → Prop} (hk : k h.size (h.push o)) : Sm false P (newObj o) h k := by
  intro w hw
  subst hw
  exact ⟨_, { w with heap := w.heap.push o }, rfl, Rel.free ⟨rfl, rfl, rfl⟩, hk⟩

theorem Sm.program {k : Program → H → Prop} (hk : k P h) : Sm x P program h k :=
  fun w hw => ⟨P, w, rfl, Rel.refl w, hw ▸ hk⟩

theorem Sm.mark {m : Mark} {k : Unit → H → Prop} (hk : k () h) : Sm x P (mark m) h k :=
  fun w hw => ⟨(), w, rfl, Rel.refl w, hw ▸ hk⟩

theorem Sm.askRoom {n : Nat} {k : Unit → H → Prop} (hk : k () h) : Sm x P (askRoom n) h k :=
  fun w hw => ⟨(), w, run_askRoom P w n, Rel.refl w, hw ▸ hk⟩

theorem Sm.frozen {a : Addr} {k : Bool → H → Prop} (hk : k (hfroz h a) h) : Sm x P (frozen a) h k :=
  fun w hw => ⟨w.frozen? a, w, rfl, Rel.refl w, by subst hw; exact hk⟩

def hshape (h : H) (r : Nat) : Option (TypeId × Nat) :=
  match h[r]? with
  | some (.cells c elem _) => some (elem, c.size)
  | _ => none

theorem Sm.shape {r : Nat} {k : Option (TypeId × Nat) → H → Prop} (hk : k (hshape h r) h) : Sm x P (shape r) h k :=
  fun w hw => ⟨w.shape? r, w, rfl, Rel.refl w, by subst hw; exact hk⟩

theorem Sm.getObj {r : Nat} {o : Obj} {k : Obj → H → Prop} (ho : h[r]? = some o) (hn : ∀ c e f, o ≠ .cells c e f) (hk : k o h) : Sm x P (getObj r) h k := by
  intro w hw
  subst hw
  refine ⟨o, w, ?_, Rel.refl w, hk⟩
  simp only [Go.getObj, Sem.run, ho]

theorem Sm.setObj {r : Nat} {o o' : Obj} {k : Unit → H → Prop} (ho : h[r]? = some o) (hn : ∀ c e f, o ≠ .cells c e f) (hk : k () (h.setIfInBounds r o')) :
    Sm false P (setObj r o') h k := by
  intro w hw
  subst hw
  refine ⟨(), { w with heap := w.heap.setIfInBounds r o' }, ?_, Rel.free ⟨rfl, rfl, rfl⟩, hk⟩
  simp only [Go.setObj, Sem.run, ho]

theorem Sm.choose {q : Question} {k : Nat → H → Prop} (hk0 : q.forced = true → k 0 h) (hk : q.forced = false → ∀ n, k (q.cut n) h) : Sm false P (choose q) h k := by
  intro w hw
  subst hw
  by_cases hq : q.forced = true
  · exact ⟨0, w, by rw [run_choose, if_pos hq], Rel.refl w, hk0 hq⟩
  · exact ⟨_, { w with drawn := w.drawn + 1 }, by rw [run_choose, if_neg hq], Rel.free ⟨rfl, rfl, rfl⟩, hk (by simpa using hq) _⟩

theorem Sm.typeInfo {t : TypeId} {i : TypeInfo} {k : TypeInfo → H → Prop} (hi : P.info? t = some i) (hk : k i h) : Sm x P (typeInfo t) h k :=
  fun w hw => ⟨i, w, by simp [Go.typeInfo, hi], Rel.refl w, hw ▸ hk⟩

theorem Sm.underlying {t : TypeId} {d : TypeDesc} {k : TypeDesc → H → Prop} (hi : P.underlying t = some d) (hk : k d h) : Sm x P (underlying t) h k :=
  fun w hw => ⟨d, w, by simp [Go.underlying, hi], Rel.refl w, hw ▸ hk⟩

theorem Sm.sizeOf {t : TypeId} {i : TypeInfo} {k : Nat → H → Prop} (hi : P.info? t = some i) (hk : k i.size h) : Sm x P (sizeOf t) h k :=
  Sm.bind (Sm.typeInfo hi (Sm.pure hk))

theorem Sm.zeroValue {t : TypeId} {i : TypeInfo} {v : Value} {k : Value → H → Prop} (hi : P.info? t = some i) (hz : i.zero = some v) (hk : k v h) : Sm x P (zeroValue t) h k := by
  refine Sm.bind (Sm.typeInfo hi ?_)
  rw [hz]
  exact Sm.pure hk

end

/-! ### What has not been touched -/
/-- Of the blocks that were there none is another, but those in M. -/
structure Only (M : List Nat) (h h' : H) : Prop where
  size : h.size ≤ h'.size
  same : ∀ b, b < h.size → b ∉ M → h'[b]? = h[b]?

theorem Only.refl (M : List Nat) (h : H) : Only M h h := ⟨Nat.le_refl _, fun _ _ _ => rfl⟩
theorem Only.trans' {M M' : List Nat} {a b c : H} (h : Only M a b) (k : Only M' b c) (hm : ∀ x ∈ M', x ∈ M ∨ a.size ≤ x) : Only M a c :=
  ⟨Nat.le_trans h.size k.size, fun x hx hn => by
    rw [k.same x (Nat.lt_of_lt_of_le hx h.size) (fun hm' => (hm x hm').elim hn (fun h' => absurd hx (Nat.not_lt.2 h'))), h.same x hx hn]⟩
theorem Only.trans {M : List Nat} {a b c : H} (h : Only M a b) (k : Only M b c) : Only M a c := h.trans' k fun _ hx => .inl hx
theorem Only.mono {M M' : List Nat} {a b : H} (h : Only M a b) (hm : ∀ x ∈ M, x ∈ M') : Only M' a b := ⟨h.size, fun x hx hn => h.same x hx fun h' => hn (hm x h')⟩
theorem Only.nil {M : List Nat} {a b : H} (h : Only [] a b) : Only M a b := h.mono fun x hx => by cases hx

theorem hcell_keep {M : List Nat} {h h' : H} {a : Addr} (ho : Only M h h') (hl : a.block < h.size) (hn : a.block ∉ M) : hcell h' a = hcell h a := by
  unfold hcell
  rw [ho.same _ hl hn]
theorem hcell_lt {h : H} {a : Addr} {v : Value} (hc : hcell h a = some v) : a.block < h.size := by
  unfold hcell at hc
  split at hc
  · rename_i hb
    exact (Array.getElem?_eq_some_iff.1 hb).1
  · cases hc

/-! ### Marks behind a row's last cell -/
/-- No cell of n ones is frozen; at most the place behind them. -/
def okz (n : Nat) (fz : Nat × Nat) : Prop := fz = (0, 0) ∨ fz = (n, n + 1)
theorem okz.free {n i : Nat} {fz : Nat × Nat} (h : okz n fz) (hi : i < n) : (decide (fz.1 ≤ i) && decide (i < fz.2)) = false := by
  rcases h with rfl | rfl
  · simp
  · simp; omega
/-- The same object, but for such a mark. -/
def Sim (o o' : Option Obj) : Prop := o' = o ∨ ∃ c T fz fz', o = some (.cells c T fz) ∧ o' = some (.cells c T fz') ∧ okz c.size fz ∧ okz c.size fz'
theorem Sim.refl (o : Option Obj) : Sim o o := .inl rfl
theorem Sim.trans {a b c : Option Obj} (h : Sim a b) (k : Sim b c) : Sim a c := by
  rcases h with rfl | ⟨x, T, fz, fz', h1, h2, h3, h4⟩
  · exact k
  · rcases k with rfl | ⟨y, U, gz, gz', k1, k2, k3, k4⟩
    · exact .inr ⟨x, T, fz, fz', h1, h2, h3, h4⟩
    · rw [h2] at k1
      injection k1 with k1
      injection k1 with e1 e2 e3
      subst e1 e2 e3
      exact .inr ⟨x, T, fz, gz', h1, k2, h3, k4⟩
/-- All that was there is as it was, but for such marks. -/
structure Sims (h h' : H) : Prop where
  size : h.size ≤ h'.size
  sim : ∀ b, b < h.size → Sim h[b]? h'[b]?
theorem Sims.refl (h : H) : Sims h h := ⟨Nat.le_refl _, fun _ _ => .refl _⟩
theorem Sims.trans {a b c : H} (h : Sims a b) (k : Sims b c) : Sims a c := ⟨Nat.le_trans h.size k.size, fun x hx => (h.sim x hx).trans (k.sim x (Nat.lt_of_lt_of_le hx h.size))⟩
/-- So it is; and the first n blocks are just as they were. -/
structure Keep (n : Nat) (h h' : H) : Prop where
  sims : Sims h h'
  old : ∀ b, b < n → h'[b]? = h[b]?
theorem Keep.refl (n : Nat) (h : H) : Keep n h h := ⟨.refl h, fun _ _ => rfl⟩
theorem Keep.trans {n : Nat} {a b c : H} (h : Keep n a b) (k : Keep n b c) : Keep n a c := ⟨h.sims.trans k.sims, fun x hx => (k.old x hx).trans (h.old x hx)⟩
theorem Keep.only {h h' : H} (k : Keep h.size h h') : Only [] h h' := ⟨k.sims.size, fun b hb _ => k.old b hb⟩
theorem Only.sims {h h' : H} (o : Only [] h h') : Sims h h' := ⟨o.size, fun b hb => .inl (o.same b hb (by simp))⟩
theorem Only.keep {n : Nat} {h h' : H} (o : Only [] h h') (hn : n ≤ h.size) : Keep n h h' := ⟨o.sims, fun b hb => o.same b (Nat.lt_of_lt_of_le hb hn) (by simp)⟩
theorem Sims.hcell {h h' : H} {a : Addr} {v : Value} (s : Sims h h') (hc : hcell h a = some v) : Ov.hcell h' a = some v := by
  have hl := hcell_lt hc
  rcases s.sim _ hl with e | ⟨c, T, fz, fz', h1, h2, _, _⟩
  · unfold Ov.hcell at *
    rw [e]; exact hc
  · unfold Ov.hcell at *
    rw [h2]; rw [h1] at hc; exact hc
def hfreeze (h : H) (b n : Nat) : H :=
  h.modify b fun
    | .cells c elem (lo, hi) => .cells c elem (if lo == hi then (n, n + 1) else (min lo n, max hi (n + 1)))
    | o => o
theorem Sm.stringish {x : Bool} {P : Program} {h : H} {a : Addr} {c : Array Value} {T : TypeId} {fz : Nat × Nat} {k : Unit → H → Prop} (hb : h[a.block]? = some (.cells c T fz)) (hk : k () (hfreeze h a.block c.size)) : Sm false P (markStringish a) h k := by
  unfold markStringish
  refine Sm.bind (Sm.shape (x := false) ?_)
  unfold hshape
  rw [hb]
  intro w hw
  subst hw
  exact ⟨(), w.freeze ⟨a.block, c.size, none⟩ 1, rfl, Rel.free ⟨rfl, rfl, rfl⟩, hk⟩
end Go.Proofs.YtiabgojnljfmhaaGreat.Ov
