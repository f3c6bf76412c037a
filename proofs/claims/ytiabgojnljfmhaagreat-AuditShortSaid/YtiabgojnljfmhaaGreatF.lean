/-
  WHAT IS SHOWN OF THE SMALL TEXT HOLDS OF THE CODE'S RUN: structs and slices that are built; and the whole: 'Fn.of'. No condition: every statement is for every program.
-/
import Derived.Test.YtiabgojnljfmhaaGreatE
namespace Go.Proofs.YtiabgojnljfmhaaGreat.Ov
section
variable {P : Program} {e : Env} {h : H} {k : Value → H → Prop}

theorem putFold (off : Nat) : ∀ (l : List Value) (j : Nat) (cs : Array Value),
    ((l.zipIdx j).foldl (fun (cs : Array Value) (p : Value × Nat) => cs.setIfInBounds (off + p.2) p.1) cs).toList = putL l (off + j) cs.toList := by
  intro l
  induction l with
  | nil => intro j cs; rfl
  | cons v r ih =>
    intro j cs
    simp only [List.zipIdx_cons, List.foldl_cons, putL]
    rw [ih (j + 1), Array.toList_setIfInBounds]
    rfl
theorem putFold' (v : Value) (off : Nat) (cs : Array Value) :
    (v.cells.zipIdx.foldl (fun (cs : Array Value) (p : Value × Nat) => cs.setIfInBounds (off + p.2) p.1) cs).toList = putL (cellsOf v) off cs.toList := by
  rw [← Array.foldl_toList, cellsOf_eq]
  have := putFold off v.cells.toList 0 cs
  rw [Array.toList_zipIdx]
  simpa using this

theorem putL_length : ∀ (l : List Value) (i : Nat) (cs : List Value), (putL l i cs).length = cs.length := by
  intro l
  induction l with
  | nil => intro i cs; rfl
  | cons v r ih => intro i cs; simp [putL, ih]
theorem putL_mid : ∀ (l : List Value) (a b : List Value), l.length ≤ b.length → putL l a.length (a ++ b) = a ++ l ++ b.drop l.length := by
  intro l
  induction l with
  | nil => intro a b _; simp [putL]
  | cons v r ih =>
    intro a b hb
    cases b with
    | nil => simp at hb
    | cons c b =>
      simp only [putL]
      have h1 : (a ++ c :: b).set a.length v = (a ++ [v]) ++ b := by simp
      rw [h1]
      have := ih (a ++ [v]) b (by simpa using hb)
      simp only [List.length_append, List.length_cons, List.length_nil] at this
      rw [this]
      simp

theorem sized_out {sz : Nat} {p : Prop} : ∀ (vs : List Value), sized sz vs p → (∀ v ∈ vs, (cellsOf v).length = sz) ∧ p := by
  intro vs
  induction vs with
  | nil => intro hp; exact ⟨by simp, hp⟩
  | cons v r ih =>
    intro hp
    simp only [sized] at hp
    cases hb : Nat.beq (cellsOf v).length sz with
    | false => rw [hb] at hp; exact hp.elim
    | true =>
      rw [hb] at hp
      obtain ⟨h1, h2⟩ := ih hp
      exact ⟨by intro u hu; rcases List.mem_cons.1 hu with rfl | hu; exact Nat.eq_of_beq_eq_true hb; exact h1 u hu, h2⟩

theorem fill_order (sz : Nat) : ∀ (ps : List (Nat × Operand)) (i : Nat) (cells : Array Value) (done rest : List Value), inOrder i ps = true → cells.toList = done ++ rest → done.length = i * sz →
    rest.length = ps.length * sz → (∀ p ∈ ps, (cellsOf (ρ e p.2)).length = sz) →
    ∃ r, Instr.fill (fun i => some (i * sz, sz)) cells (ps.map fun p => (p.1, ρ e p.2)) = some r ∧ r.toList = done ++ (ps.map fun p => ρ e p.2).flatMap cellsOf := by
  intro ps
  induction ps with
  | nil =>
    intro i cells done rest _ hc _ hr _
    have : rest = [] := by simpa using hr
    subst this
    exact ⟨cells, rfl, by simpa using hc⟩
  | cons p ps ih =>
    obtain ⟨j, x⟩ := p
    intro i cells done rest ho hc hd hr hs
    simp only [inOrder, Bool.and_eq_true] at ho
    have hij := Nat.eq_of_beq_eq_true ho.1
    subst hij
    have hx : (cellsOf (ρ e x)).length = sz := hs (i, x) (by simp)
    have hxs : (ρ e x).cells.size = sz := by rw [← hx, cellsOf_eq]; simp
    have hcs : cells.size = i * sz + (ps.length + 1) * sz := by
      rw [← Array.length_toList, hc, List.length_append, hd, hr]; simp
    simp only [List.map_cons, Instr.fill]
    rw [if_neg (by rw [hxs, hcs, Nat.add_mul, Nat.one_mul]; simp)]
    have hrl : sz ≤ rest.length := by rw [hr]; simp [Nat.add_mul]
    refine (ih (i + 1) _ (done ++ cellsOf (ρ e x)) (rest.drop sz) ho.2 ?_ (by simp [hd, hx, Nat.add_mul]) (by rw [List.length_drop, hr]; simp [Nat.add_mul]) (fun p hp => hs p (by simp [hp]))).imp fun r hr => ⟨hr.1, by rw [hr.2]; simp⟩
    rw [putFold', hc, ← hd, putL_mid _ _ _ (by rw [hx]; exact hrl), hx]

theorem bs_sound {ty t elem : TypeId} {len : Nat} {parts : Array (Nat × Operand)} {i : TypeInfo} {z : Value} (hu : P.underlying t = some (.slice elem)) (hi : P.info? elem = some i) (hz : i.zero = some z)
    (ho : inOrder 0 parts.toList = true) (hl : parts.toList.length = len) (h24 : len * i.size ≤ 2 ^ 24)
    (hv : vO P e h k (.bs elem len i.size (parts.toList.map fun p => opX p.2))) : RawO false P (ρ e) (.buildSlice t len parts) ty h k := by
  simp only [vO, forceL_eq, List.map_map] at hv
  have hm : List.map (e.ev ∘ fun p : Nat × Operand => opX p.2) parts.toList = parts.toList.map fun p => ρ e p.2 := by
    congr 1; funext p; exact ev_opX e p.2
  rw [hm] at hv
  obtain ⟨hs, hv⟩ := sized_out _ hv
  have hk := New_out hv
  unfold RawO
  simp only [execOp]
  refine val_of ?_
  unfold Instr.buildSlice
  refine Sm.bind (Sm.underlying hu ?_)
  refine Sm.bind (Sm.sizeOf hi ?_)
  rw [if_neg (by omega)]
  have go : ∀ zero : Array Value, Sm false P (do
      let some cells := Instr.fill (fun j => some (j * i.size, i.size)) ((Array.range (len * i.size)).map (zero[· % zero.size]!)) (parts.map fun (j, x) => (j, ρ e x)).toList
        | stuck "buildSlice: a part of the wrong size"
      pure (Value.slice (some (← newRow elem cells)) len len)) h k := by
    intro zero
    have hf := fill_order (e := e) i.size parts.toList 0 ((Array.range (len * i.size)).map (zero[· % zero.size]!)) [] _ ho rfl (by simp) (by simp [hl]) (fun p hp => hs _ (List.mem_map.2 ⟨p, hp, rfl⟩))
    obtain ⟨r, hr, hrl⟩ := hf
    have hp : (parts.map fun (j, x) => (j, ρ e x)).toList = parts.toList.map fun p => (p.1, ρ e p.2) := by simp
    rw [hp, hr]
    simp only []
    refine Sm.bind (Sm.bind (Sm.newObj (Sm.pure ?_)))
    refine Sm.pure ?_
    have : r = (List.flatMap cellsOf (parts.toList.map fun p => ρ e p.2)).toArray := by apply Array.ext'; simpa using hrl
    rw [this]
    exact hk
  exact Sm.ite (fun _ => Sm.bind (Sm.pure (go _))) (fun _ => Sm.bind (Sm.zeroValue hi hz (Sm.bind (Sm.pure (go _)))))

theorem fillL_sound : ∀ (pl : List (Nat × Nat)) (ops : List (Nat × Operand)) (ps : List (Nat × Nat × X)) (cs : Array Value) (kk : List Value → Prop), partsAt pl ops = some ps → fillL e cs.toList ps kk →
    ∃ r, Instr.fill (fun i => nth pl i) cs (ops.map fun p => (p.1, ρ e p.2)) = some r ∧ kk r.toList := by
  intro pl ops
  induction ops with
  | nil =>
    intro ps cs kk hp hf
    simp only [partsAt, Option.some.injEq] at hp
    subst hp
    exact ⟨cs, rfl, hf⟩
  | cons p ops ih =>
    obtain ⟨i, x⟩ := p
    intro ps cs kk hp hf
    simp only [partsAt] at hp
    cases hn : nth pl i with
    | none => rw [hn] at hp; cases hp
    | some os =>
      obtain ⟨o, s⟩ := os
      rw [hn] at hp
      cases hr : partsAt pl ops with
      | none => rw [hr] at hp; cases hp
      | some rs =>
        rw [hr] at hp
        injection hp with hp
        subst hp
        simp only [fillL, force_eq, ev_opX] at hf
        cases hb : (Nat.beq (cellsOf (ρ e x)).length s && Nat.ble (o + s) cs.toList.length) with
        | false => rw [hb] at hf; exact hf.elim
        | true =>
          rw [hb] at hf
          simp only [Bool.and_eq_true] at hb
          have h1 : (ρ e x).cells.size = s := by have := Nat.eq_of_beq_eq_true hb.1; rw [cellsOf_eq] at this; simpa using this
          have h2 : o + s ≤ cs.size := by have := Nat.le_of_ble_eq_true hb.2; simpa using this
          simp only [List.map_cons, Instr.fill, hn]
          rw [if_neg (by simp [h1]; omega)]
          refine ih rs _ kk hr ?_
          rw [putFold']
          exact hf

theorem placesOf_sound {st : Bool} {kk : Array (Nat × Nat) → H → Prop} : ∀ (fs : List Field) (pl : List (Nat × Nat)) (acc : Array (Nat × Nat)), placesOf P fs = some pl → kk (acc ++ pl.toArray) h →
    Sm st P (fs.foldlM (fun (bs : Array (Nat × Nat)) f => bs.push <$> (do pure (f.offset, ← sizeOf f.type))) acc) h kk := by
  intro fs
  induction fs with
  | nil =>
    intro pl acc hp hk
    simp only [placesOf, Option.some.injEq] at hp
    subst hp
    exact Sm.pure (by simpa using hk)
  | cons f fs ih =>
    intro pl acc hp hk
    simp only [placesOf] at hp
    cases hi : P.info? f.type with
    | none => rw [hi] at hp; cases hp
    | some i =>
      rw [hi] at hp
      cases hr : placesOf P fs with
      | none => rw [hr] at hp; cases hp
      | some r =>
        rw [hr] at hp
        injection hp with hp
        subst hp
        rw [List.foldlM_cons]
        refine Sm.bind (Sm.map (Sm.bind (Sm.sizeOf hi (Sm.pure ?_))))
        refine ih r _ hr ?_
        rw [show acc.push (f.offset, i.size) ++ r.toArray = acc ++ ((f.offset, i.size) :: r).toArray from by apply Array.ext'; simp]
        exact hk

theorem bd_sound {st : Bool} {ty t : TypeId} {parts : Array (Nat × Operand)} {fs : Array Field} {i : TypeInfo} {z : Value} {pl : List (Nat × Nat)} {ps : List (Nat × Nat × X)} (hu : P.underlying t = some (.struct fs)) (hi : P.info? t = some i)
    (hz : i.zero = some z) (hp : placesOf P fs.toList = some pl) (hps : partsAt pl parts.toList = some ps) (hv : vO P e h k (.bd (cellsOf z) ps)) : RawO st P (ρ e) (.build t parts) ty h k := by
  simp only [vO] at hv
  unfold RawO
  simp only [execOp]
  refine val_of ?_
  unfold Instr.build
  refine Sm.bind (Sm.zeroValue hi hz ?_)
  refine Sm.bind (Sm.underlying hu ?_)
  simp only []
  rw [Array.mapM_eq_foldlM]
  rw [← Array.foldlM_toList]
  refine Sm.bind (placesOf_sound fs.toList pl #[] hp ?_)
  rw [cellsOf_eq] at hv
  obtain ⟨r, hr, hk⟩ := fillL_sound pl parts.toList ps z.cells _ hps hv
  have h1 : (fun j => (#[] ++ pl.toArray : Array (Nat × Nat))[j]?) = fun j => nth pl j := by funext j; rw [nth_eq]; simp
  have h2 : (parts.map fun (j, x) => (j, ρ e x)).toList = parts.toList.map fun p => (p.1, ρ e p.2) := by simp
  rw [h1, h2, hr]
  simp only []
  exact Sm.pure hk

theorem ms_sound {ty t elem : TypeId} {l c : Operand} {i : TypeInfo} {z : Value} (hu : P.underlying t = some (.slice elem)) (hi : P.info? elem = some i) (hz : i.zero = some z) (hs : (cellsOf z).length = i.size)
    (hv : vO P e h k (.ms (opX l) (opX c) elem i.size i.bytes (cellsOf z))) : RawO false P (ρ e) (.makeSlice t l c) ty h k := by
  simp only [vO, ev_opX] at hv
  split at hv
  · rename_i q a q' b ex ey
    unfold Mk at hv
    obtain ⟨h0, h1, h2, h3, hk⟩ := hv
    have wl : IntKind.i64.wrap a = a := by unfold IntKind.wrap IntKind.bits IntKind.signed; simp; omega
    have wc : IntKind.i64.wrap b = b := by unfold IntKind.wrap IntKind.bits IntKind.signed; simp; omega
    unfold RawO
    simp only [execOp, ex, ey]
    refine val_of ?_
    unfold Instr.makeSlice
    refine Sm.bind (Sm.underlying hu ?_)
    simp only []
    refine Sm.bind (Sm.bind (Sm.pure (Sm.pure ?_)))
    refine Sm.bind (Sm.bind (Sm.pure (Sm.pure ?_)))
    refine Sm.bind (Sm.typeInfo hi ?_)
    simp only [wl, wc]
    rw [if_neg (by simp; omega)]
    refine Sm.bind (Sm.askRoom ?_)
    refine Sm.bind (Sm.sizeOf hi ?_)
    have hzs : z.cells.size = i.size := by rw [← hs, cellsOf_eq]; simp
    refine Sm.ite (fun hn => Sm.bind (Sm.pure ?_)) (fun hn => Sm.bind (Sm.zeroValue hi hz (Sm.bind (Sm.pure ?_))))
    · refine Sm.bind (Sm.bind (Sm.newObj (Sm.pure (Sm.pure ?_))))
      have : (Builtin.zeroCells (cellsOf z).toArray b.toNat) = #[] := by
        unfold Builtin.zeroCells
        rw [show b.toNat * (cellsOf z).toArray.size = 0 from by simpa [hs] using hn]
        simp
      rw [this] at hk
      have hz0 : ∀ f : Nat → Value, Array.map f (Array.range 0) = #[] := fun f => by simp
      rw [hn, hz0]
      exact hk
    · refine Sm.bind (Sm.bind (Sm.newObj (Sm.pure (Sm.pure ?_))))
      unfold Builtin.zeroCells at hk
      rw [cellsOf_eq, Array.toArray_toList, hzs] at hk
      rw [hzs]
      exact hk
  · exact hv.elim
end
end Go.Proofs.YtiabgojnljfmhaaGreat.Ov
