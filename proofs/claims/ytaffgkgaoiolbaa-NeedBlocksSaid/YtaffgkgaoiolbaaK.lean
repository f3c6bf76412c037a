/-
  REGIONS WHOSE ORDER IS DRAWN: what is shown of the small text holds whatever the order. No condition: every statement is for every program.
-/
import Derived.Test.YtaffgkgaoiolbaaI
namespace Go.Proofs.Ytaffgkgaoiolbaa.Ov
section
variable {P : Program}

theorem exact_of {op : Op} {ty : TypeId} {x : SO} {e : Env} {w : World} {k : Value → H → Prop} (hx : compOp P op ty = some x) (hs : x.still = true) (hv : vO P e w.heap k x) {o : Oper} (ho : o.op = op) (ht : o.type = ty) {a : Act}
    (ha : Agree e a) : ∃ v, (execOp a.eval o).run P w = .ok (.value v) w ∧ k v w.heap := by
  obtain ⟨nx, w', hr, hrel, hn⟩ := op_all (st := true) (fun _ => hs) hx hv w rfl
  obtain rfl := hrel.same rfl
  have heq : execOp a.eval o = execOp (ρ e) { dst := none, op := op, type := ty, pos := "", after := #[], guard := none } := by
    rw [ha.eval]
    obtain ⟨dst, op', type', pos, after, guard⟩ := o
    simp only at ho ht
    subst ho ht
    cases op' <;> rfl
  rw [heq, hr]
  cases nx with
  | value v => exact ⟨v, rfl, hn⟩
  | skip => exact absurd hn.1 (by simp)
  | enter f args => exact absurd hn.1 (by simp)
  | _ => exact hn.elim

/-- What 'compS' was made of. -/
theorem compS_out {n : Nat} {ops : List Oper} {o : Oper} {s : S} (hs : compS P n ops o = some s) : ∃ x, compOp P o.op o.type = some x ∧
    ((o.guard = none ∧ o.dst = none ∧ s = .n x) ∨ (∃ d, o.guard = none ∧ o.dst = some d ∧ @LT.lt Nat _ d n ∧ s = .o d x) ∨
     (∃ j want oj q, o.guard = some (j, want) ∧ nth ops j = some oj ∧ oj.dst = some q ∧ o.dst = none ∧ s = .gn q want x) ∨
     (∃ j want oj q d, o.guard = some (j, want) ∧ nth ops j = some oj ∧ oj.dst = some q ∧ o.dst = some d ∧ @LT.lt Nat _ d n ∧ s = .g q want d x)) := by
  unfold compS at hs
  cases hx : compOp P o.op o.type with
  | none => rw [hx] at hs; cases hs
  | some x =>
  rw [hx] at hs
  simp only [] at hs
  refine ⟨x, rfl, ?_⟩
  cases hg : o.guard with
  | none =>
    rw [hg] at hs
    cases hdst : o.dst with
    | none => rw [hdst] at hs; injection hs with hs; exact .inl ⟨rfl, rfl, hs.symm⟩
    | some d =>
      rw [hdst] at hs
      simp only [] at hs
      split at hs
      · rename_i hb
        injection hs with hs
        exact .inr (.inl ⟨d, rfl, rfl, Nat.le_of_ble_eq_true hb, hs.symm⟩)
      · cases hs
  | some gw =>
    obtain ⟨j, want⟩ := gw
    rw [hg] at hs
    simp only [] at hs
    cases hj : nth ops j with
    | none => rw [hj] at hs; cases hs
    | some oj =>
    rw [hj] at hs
    simp only [] at hs
    cases hjd : oj.dst with
    | none => rw [hjd] at hs; cases hs
    | some q =>
    rw [hjd] at hs
    cases hdst : o.dst with
    | none => rw [hdst] at hs; injection hs with hs; exact .inr (.inr (.inl ⟨j, want, oj, q, rfl, hj, hjd, rfl, hs.symm⟩))
    | some d =>
      rw [hdst] at hs
      simp only [] at hs
      split at hs
      · rename_i hb
        injection hs with hs
        exact .inr (.inr (.inr ⟨j, want, oj, q, d, rfl, hj, hjd, rfl, Nat.le_of_ble_eq_true hb, hs.symm⟩))
      · cases hs

/-- One operation: it is wanted and yields, or it is passed over; what goes on behind it. -/
theorem one_out {n : Nat} {ops : List Oper} {o : Oper} {s : S} {e : Env} {a : Act} {w : World} {K : Env → H → Prop} (hs : compS P n ops o = some s) (ha : Agree e a) (hn : n ≤ a.tmps.size) (hd : dL P [s] e w.heap K) :
    ∃ x, compOp P o.op o.type = some x ∧
    ((Region.wanted o (yielded ops.toArray a.tmps) = true ∧ vO P e w.heap (fun v h' => ∃ e1, Agree e1 (a.put o.dst v) ∧ K e1 h') x) ∨
     (Region.wanted o (yielded ops.toArray a.tmps) = false ∧ ∃ e1, Agree e1 (a.put o.dst undef) ∧ K e1 w.heap)) := by
  obtain ⟨x, hx, hcase⟩ := compS_out hs
  refine ⟨x, hx, ?_⟩
  rcases hcase with ⟨hg, hdst, rfl⟩ | ⟨d, hg, hdst, hlt, rfl⟩ | ⟨j, want, oj, q, hg, hj, hjd, hdst, rfl⟩ | ⟨j, want, oj, q, d, hg, hj, hjd, hdst, hlt, rfl⟩
  · refine .inl ⟨by simp [Region.wanted, hg], ?_⟩
    simp only [dL] at hd
    rw [hdst]
    have : (fun v h' => ∃ e1, Agree e1 (a.put none v) ∧ K e1 h') = fun (_ : Value) h' => ∃ e1, Agree e1 a ∧ K e1 h' := rfl
    rw [this]
    exact vO_mono hd fun _ h' hk => ⟨e, ha, hk⟩
  · refine .inl ⟨by simp [Region.wanted, hg], ?_⟩
    simp only [dL] at hd
    rw [hdst]
    exact vO_mono hd fun v h' hk => ⟨_, ha.put (Nat.lt_of_lt_of_le hlt hn) v, hk⟩
  · have hw := wanted_guard (o := o) ha hg hj hjd
    simp only [dL] at hd
    rw [hdst]
    rcases guarded_out hd with ⟨hv, hd⟩ | ⟨hv, hd⟩
    · exact .inl ⟨hw.2 hv, vO_mono hd fun _ h' hk => ⟨e, ha, hk⟩⟩
    · exact .inr ⟨by simpa using fun h => hv (hw.1 h), e, ha, hd⟩
  · have hw := wanted_guard (o := o) ha hg hj hjd
    simp only [dL] at hd
    rw [hdst]
    rcases guarded_out hd with ⟨hv, hd⟩ | ⟨hv, hd⟩
    · exact .inl ⟨hw.2 hv, vO_mono hd fun v h' hk => ⟨_, ha.put (Nat.lt_of_lt_of_le hlt hn) v, hk⟩⟩
    · exact .inr ⟨by simpa using fun h => hv (hw.1 h), _, ha.put (Nat.lt_of_lt_of_le hlt hn) _, hd⟩

/-- What holds of a state that a region has come to, against the one in which it began. -/
structure Now (a0 : Act) (w0 : World) (n : Nat) (wr : List Nat) (a : Act) (w : World) : Prop where
  rest : Rest w0 w
  defers : a.defers = a0.defers
  size : a.tmps.size = a0.tmps.size
  big : n ≤ a0.tmps.size
  keep : ∀ t, t ∉ wr → a.tmps.getD t undef = a0.tmps.getD t undef

theorem Now.put {a0 a : Act} {w0 w w' : World} {n : Nat} {wr : List Nat} (h : Now a0 w0 n wr a w) {d : Option Nat} (hd : ∀ t, d = some t → t ∈ wr) (hr : Rest w w') (v : Value) : Now a0 w0 n wr (a.put d v) w' :=
  ⟨h.rest.trans hr, (put_defers _ _ _).trans h.defers, (put_size _ _ _).trans h.size, h.big, fun t ht => by
    cases d with
    | none => exact h.keep t ht
    | some q => rw [put_get_ne v (fun he => ht (by rw [he]; exact hd q rfl)), h.keep t ht]⟩

theorem dst_wr {n : Nat} {ops : List Oper} {o : Oper} {s : S} (hs : compS P n ops o = some s) : ∀ t, o.dst = some t → t ∈ s.wr := by
  obtain ⟨x, _, hcase⟩ := compS_out hs
  intro t ht
  rcases hcase with ⟨_, hd, rfl⟩ | ⟨d, _, hd, _, rfl⟩ | ⟨_, _, _, _, _, _, _, hd, rfl⟩ | ⟨_, _, _, _, d, _, _, _, hd, _, rfl⟩ <;> rw [hd] at ht <;> first | (injection ht with ht; subst ht; exact List.Mem.head _) | cases ht

theorem alts_out {f : Nat → Option (S × PS)} : ∀ (l : List Nat) (p : PS), alts f l = some p → ∀ (e : Env) (h : H) (K : Env → H → Prop), dP P p e h K →
    ∀ i ∈ l, ∃ s q, f i = some (s, q) ∧ (dL P [s] e h fun e h => dP P q e h K) ∧ (∀ t ∈ s.wr, t ∈ p.wr) ∧ (∀ t ∈ q.wr, t ∈ p.wr) := by
  intro l
  induction l with
  | nil => intro p _ e h K _ i hi; cases hi
  | cons j r ih =>
    intro p hp e h K hd i hi
    simp only [alts] at hp
    split at hp
    · rename_i s q rp hf hr
      injection hp with hp
      subst hp
      have hd := alt_out hd
      rcases List.mem_cons.1 hi with rfl | hi
      · exact ⟨s, q, hf, hd.1, by simp [PS.wr]; intro t ht; simp [ht], by simp [PS.wr]; intro t ht; simp [ht]⟩
      · obtain ⟨s', q', h1, h2, h3, h4⟩ := ih rp hr e h K hd.2 i hi
        exact ⟨s', q', h1, h2, fun t ht => by simp [PS.wr, h3 t ht], fun t ht => by simp [PS.wr, h4 t ht]⟩
    · cases hp

theorem one_step {n : Nat} {ops : Array Oper} {i : Nat} {o : Oper} {s : S} {e : Env} {a : Act} {w : World} {K : Env → H → Prop} {Q : Exit → Act → World → Prop} {nx : Act → World → Prop} (ho : nth ops.toList i = some o) (hs : compS P n ops.toList o = some s)
    (ha : Agree e a) (hn : n ≤ a.tmps.size) (hd : dL P [s] e w.heap K)
    (hk : ∀ v w' e1, Rest w w' → Agree e1 (a.put o.dst v) → K e1 w'.heap → nx (a.put o.dst v) w') : wpOp P ops Q i nx a w := by
  have ho' : ops[i]? = some o := by rw [← nth_arr]; exact ho
  obtain ⟨x, hx, hc⟩ := one_out hs ha hn hd
  rw [show ops.toList.toArray = ops from by simp] at hc
  unfold wpOp
  simp only [ho']
  rcases hc with ⟨hw, hv⟩ | ⟨hw, e1, ha1, hk1⟩
  · rw [if_pos hw]
    exact .inl (wp_of_raw ha (op_all (st := false) (fun h => by cases h) hx hv) fun v w' hr ⟨e1, ha1, hk1⟩ => hk v w' e1 hr ha1 hk1)
  · rw [if_neg (by simp [hw])]
    exact hk undef w e1 (Rest.refl w) ha1 hk1

theorem find_out {p : Nat → Bool} {l : List Nat} {i : Nat} (h : l.find? p = some i) : i ∈ l ∧ p i = true := ⟨List.mem_of_find?_eq_some h, List.find?_some h⟩

theorem planOf_sound {n : Nat} {ops : Array Oper} (hsel : Region.noSelect ops = true) {a0 : Act} {w0 : World} {wr : List Nat} {Kn : Env → H → Prop} {Kx : SX → Env → H → Prop} :
    ∀ (f : Nat) (listed : Array Bool) (p : PS) (e : Env) (a : Act) (w : World), planOf P n ops f listed = some p → Agree e a → Now a0 w0 n wr a w → (∀ t ∈ p.wr, t ∈ wr) → dP P p e w.heap Kn →
      wpAny P .any ops (Post a0 w0 n wr Kn Kx) f listed a w := by
  have fin : ∀ (e : Env) (a : Act) (w : World), Agree e a → Now a0 w0 n wr a w → Kn e w.heap → Post a0 w0 n wr Kn Kx .normal a w := fun e a w ha hw hk =>
    ⟨hw.rest, hw.defers, by rw [hw.size]; exact hw.big, hw.keep, e, ha, hk⟩
  intro f
  induction f with
  | zero =>
    intro listed p e a w hp ha hnow hwr hd
    simp only [planOf] at hp
    split at hp
    · rename_i hr
      injection hp with hp
      subst hp
      exact wpAny_done hr (fin e a w ha hnow hd) 0
    · cases hp
  | succ f ih =>
    intro listed p e a w hp ha hnow hwr hd
    have hn : n ≤ a.tmps.size := by rw [hnow.size]; exact hnow.big
    simp only [planOf] at hp
    split at hp
    · rename_i hr
      injection hp with hp
      subst hp
      exact wpAny_done hr (fin e a w ha hnow hd) _
    · rename_i rs hne
      split at hp
      · rename_i i hfind
        obtain ⟨hmem, hpi⟩ := find_out hfind
        simp only [Bool.and_eq_true] at hpi
        obtain ⟨hfree, hpure⟩ := hpi
        split at hp
        · rename_i o ho
          split at hp
          · rename_i s q hs hq
            injection hp with hp
            subst hp
            simp only [dP] at hd
            have ho' : ops[i]? = some o := by rw [← nth_arr]; exact ho
            obtain ⟨x, hx, hc⟩ := one_out hs ha hn hd
            rw [show ops.toList.toArray = ops from by simp] at hc
            have hpx : x.pure = true := by
              unfold pureAt at hpure
              rw [ho] at hpure
              simp only [hx] at hpure
              exact hpure
            have hsx : x.still = true := by cases x <;> first | rfl | (simp [SO.pure, SO.still] at hpx)
            rcases hc with ⟨hw, hv⟩ | ⟨hw, e1, ha1, hk1⟩
            · obtain ⟨v, ⟨e1, ha1, hk1⟩, hall⟩ := pure_all hpx hv
              refine wpAny_take (v := v) ho' hsel hfree (by simpa using hmem) (fun c a w hq => by obtain ⟨_, _, _, _, _, _, hf⟩ := hq; exact hf.elim) (.inl ⟨hw, fun w2 => ?_⟩) ?_
              · obtain ⟨v', hr, rfl⟩ := exact_of hx hsx (hall w2.heap) rfl rfl ha
                exact hr
              · exact ih _ q e1 _ w hq ha1 (hnow.put (fun t ht => hwr t (by simp [PS.wr, dst_wr hs t ht])) (Rest.refl w) v) (fun t ht => hwr t (by simp [PS.wr, ht])) hk1
            · refine wpAny_take (v := undef) ho' hsel hfree (by simpa using hmem) (fun c a w hq => by obtain ⟨_, _, _, _, _, _, hf⟩ := hq; exact hf.elim) (.inr ⟨hw, rfl⟩) ?_
              exact ih _ q e1 _ w hq ha1 (hnow.put (fun t ht => hwr t (by simp [PS.wr, dst_wr hs t ht])) (Rest.refl w) undef) (fun t ht => hwr t (by simp [PS.wr, ht])) hk1
          · cases hp
        · cases hp
      · refine wpAny_all rfl (fun h => hne h) fun i hi => ?_
        obtain ⟨s, q, hf, hd1, hw1, hw2⟩ := alts_out _ p hp e w.heap Kn hd i hi
        split at hf
        · rename_i o ho
          split at hf
          · rename_i s' q' hs hq
            injection hf with hf
            injection hf with h1 h2
            subst h1 h2
            refine one_step ho hs ha hn hd1 fun v w' e1 hr ha1 hk1 => ?_
            exact ih _ q' e1 _ w' hq ha1 (hnow.put (fun t ht => hwr t (hw1 t (dst_wr hs t ht))) hr v) (fun t ht => hwr t (hw2 t ht)) hk1
          · cases hf
        · cases hf

/-! ### First what leaves the world as it is -/
theorem still_out {n : Nat} {ops : List Oper} {a0 : Act} {w0 w : World} {wr : List Nat} {K : Env → H → Prop} {nx : Act → Prop} : ∀ (m : Nat) (l : List Oper) (sl : List S) (e : Env) (a : Act), m ≤ stillHead P l → compL P n ops l = some sl → Agree e a →
    Now a0 w0 n wr a w → (∀ s ∈ sl, ∀ t ∈ s.wr, t ∈ wr) → dL P sl e w.heap K →
    (∀ e1 a1, Agree e1 a1 → Now a0 w0 n wr a1 w → (∃ sl2, compL P n ops (l.drop m) = some sl2 ∧ (∀ s ∈ sl2, ∀ t ∈ s.wr, t ∈ wr) ∧ dL P sl2 e1 w.heap K) → nx a1) →
    wpStill P ops.toArray w nx (l.take m) a := by
  intro m
  induction m with
  | zero =>
    intro l sl e a _ hc ha hnow hwr hd hk
    rw [List.take_zero]
    exact hk e a ha hnow ⟨sl, by simpa using hc, hwr, hd⟩
  | succ m ih =>
    intro l sl e a hm hc ha hnow hwr hd hk
    have hn : n ≤ a.tmps.size := by rw [hnow.size]; exact hnow.big
    match l, hm, hc, hk with
    | [], hm, _, _ => simp [stillHead] at hm
    | [_], hm, _, _ => simp [stillHead] at hm
    | o :: o2 :: r, hm, hc, hk =>
      simp only [stillHead] at hm
      simp only [compL] at hc
      cases hs : compS P n ops o with
      | none => rw [hs] at hc; cases hc
      | some s =>
      cases hl : compL P n ops (o2 :: r) with
      | none => rw [hs] at hc; simp only [compL] at hl; rw [hl] at hc; cases hc
      | some rl =>
      have hc' : some (s :: rl) = some sl := by
        rw [← hc, hs]
        simp only [compL] at hl
        rw [hl]
      injection hc' with hc'
      subst hc'
      have hd1 : dL P [s] e w.heap fun e h => dL P rl e h K := by
        cases s <;> exact hd
      obtain ⟨x, hx, hcs⟩ := one_out hs ha hn hd1
      rw [hx] at hm
      simp only [] at hm
      cases hsx : x.still with
      | false => rw [hsx] at hm; simp at hm
      | true =>
      rw [hsx] at hm
      simp only [if_true] at hm
      rw [List.take_succ_cons]
      unfold wpStill
      have go : ∀ (v : Value) (e1 : Env), Agree e1 (a.put o.dst v) → dL P rl e1 w.heap K → wpStill P ops.toArray w nx ((o2 :: r).take m) (a.put o.dst v) := fun v e1 ha1 hk1 =>
        ih (o2 :: r) rl e1 _ (by omega) hl ha1 (hnow.put (fun t ht => hwr s (by simp) t (dst_wr hs t ht)) (Rest.refl w) v) (fun s' hs' => hwr s' (by simp [hs'])) hk1 (by simpa using hk)
      rcases hcs with ⟨hw, hv⟩ | ⟨hw, e1, ha1, hk1⟩
      · rw [if_pos hw]
        obtain ⟨v, hr, e1, ha1, hk1⟩ := exact_of hx hsx hv rfl rfl ha
        unfold Oper.still
        rw [hr]
        exact ⟨rfl, go v e1 ha1 hk1⟩
      · rw [if_neg (by simp [hw])]
        exact go undef e1 ha1 hk1

theorem dL_now {n : Nat} (ops : List Oper) {a0 : Act} {w0 : World} {wr : List Nat} {Kn : Env → H → Prop} {Kx : SX → Env → H → Prop} : ∀ (l : List Oper) (sl : List S) (e : Env) (a : Act) (w : World), compL P n ops l = some sl → Agree e a →
    Now a0 w0 n wr a w → (∀ s ∈ sl, ∀ t ∈ s.wr, t ∈ wr) → dL P sl e w.heap Kn → wpList P ops.toArray (Post a0 w0 n wr Kn Kx) l a w := by
  intro l
  induction l with
  | nil =>
    intro sl e a w hc ha hnow _ hd
    simp only [compL, Option.some.injEq] at hc
    subst hc
    exact ⟨hnow.rest, hnow.defers, by rw [hnow.size]; exact hnow.big, hnow.keep, e, ha, hd⟩
  | cons o r ih =>
    intro sl e a w hc ha hnow hwr hd
    have hn : n ≤ a.tmps.size := by rw [hnow.size]; exact hnow.big
    simp only [compL] at hc
    cases hs : compS P n ops o with
    | none => rw [hs] at hc; cases hc
    | some s =>
    cases hl : compL P n ops r with
    | none => rw [hs, hl] at hc; cases hc
    | some rl =>
    rw [hs, hl] at hc
    injection hc with hc
    subst hc
    have hd1 : dL P [s] e w.heap fun e h => dL P rl e h Kn := by
      cases s <;> exact hd
    obtain ⟨x, hx, hcs⟩ := one_out hs ha hn hd1
    unfold wpList
    have go : ∀ (v : Value) (w' : World) (e1 : Env), Rest w w' → Agree e1 (a.put o.dst v) → dL P rl e1 w'.heap Kn → wpList P ops.toArray (Post a0 w0 n wr Kn Kx) r (a.put o.dst v) w' := fun v w' e1 hr ha1 hk1 =>
      ih rl e1 _ w' hl ha1 (hnow.put (fun t ht => hwr s (by simp) t (dst_wr hs t ht)) hr v) (fun s' hs' => hwr s' (by simp [hs'])) hk1
    rcases hcs with ⟨hw, hv⟩ | ⟨hw, e1, ha1, hk1⟩
    · rw [if_pos hw]
      exact .inl (wp_of_raw ha (op_all (st := false) (fun h => by cases h) hx hv) fun v w' hr ⟨e1, ha1, hk1⟩ => go v w' e1 hr ha1 hk1)
    · rw [if_neg (by simp [hw])]
      exact go undef w e1 (Rest.refl w) ha1 hk1

theorem compD_sound {n : Nat} {id : Nat} {ops : Array Oper} {s : SC} {e : Env} {a : Act} {w : World} {Kn : Env → H → Prop} {Kx : SX → Env → H → Prop} (hc : compD P n ops = some s) (ha : Agree e a) (hn : n ≤ a.tmps.size)
    (hd : dC P s e w.heap Kn Kx) : (Code.region id ops true).wp P (Post a w n s.wr Kn Kx) a w := by
  unfold compD at hc
  split at hc
  rotate_left
  · cases hc
  rename_i hm
  have now : ∀ wr, Now a w n wr a { w with drawn := w.drawn + 1 } := fun wr => ⟨⟨rfl, rfl, rfl⟩, rfl, rfl, hn, fun _ _ => rfl⟩
  split at hc
  · rename_i hB
    split at hc
    · rename_i l hl
      injection hc with hc
      subst hc
      have hB' : Region.lexTailB .any ops.toList.toArray (stillHead P ops.toList) = true := by simpa using hB
      have := wp_region_still_tail (id := id) (a := a) (w := w) (l := ops.toList) (Q := Post a w n (SC.ops l).wr Kn Kx) (stillHead P ops.toList) hm hB' ?_
      · rw [show ops.toList.toArray = ops from by simp] at this
        exact this
      · have hw : ∀ s ∈ l, ∀ t ∈ s.wr, t ∈ (SC.ops l).wr := fun s hs t ht => by simp only [SC.wr, List.mem_flatMap]; exact ⟨s, hs, ht⟩
        refine still_out (K := Kn) (stillHead P ops.toList) ops.toList l e a (Nat.le_refl _) hl ha (now _) hw hd ?_
        rintro e1 a1 ha1 hnow ⟨sl2, hc2, hw2, hd2⟩
        exact dL_now ops.toList _ sl2 e1 a1 _ hc2 ha1 hnow hw2 hd2
    · cases hc
  · split at hc
    · rename_i hsel
      split at hc
      · rename_i p hp
        injection hc with hc
        subst hc
        exact wp_region_any hm (planOf_sound hsel _ _ p e a _ hp ha (now _) (fun t ht => ht) hd)
      · cases hc
    · cases hc
end
end Go.Proofs.Ytaffgkgaoiolbaa.Ov
