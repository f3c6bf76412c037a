/-
  REGIONS WHOSE ORDER IS DRAWN: what is shown of the small text holds whatever the order. No condition: every statement is for every program.
-/
import Derived.Test.YtiabgojnljfmhaaGreatI
import Derived.OrdersHeld
namespace Go.Proofs.YtiabgojnljfmhaaGreat.Ov
section
variable {P : Program}

theorem exact_of {op : Op} {ty : TypeId} {x : SO} {e : Env} {w : World} {k : Value → H → Prop} (hx : compOp P op ty = some x) (hs : x.still = true) (hv : vO P e w.heap k x) {o : Oper} (ho : o.op = op) (ht : o.type = ty) {a : Act}
    (ha : Agree e a) : ∃ v, (execOp a.eval o).run P w = .ok (.value v) w ∧ k v w.heap := by
  obtain ⟨nx, w', hr, hrel, hn⟩ := op_all (st := true) (fun _ => hs) hx hv w rfl
  obtain rfl := hrel.same rfl
  have heq : execOp a.eval o = execOp (ρ e) { dst := none, op := op, type := ty, pos := "", after := #[], guard := none } := by
    rw [ha.eval]
    obtain ⟨dst, op', type', pos, after, guard⟩ := o
    simp only at ho ht
    subst ho ht
    cases op' <;> rfl
  rw [heq, hr]
  cases nx with
  | value v => exact ⟨v, rfl, hn⟩
  | skip => exact absurd hn.1 (by simp)
  | enter f args => exact absurd hn.1 (by simp)
  | _ => exact hn.elim

/-- What 'compS' was made of. -/
theorem compS_out {n : Nat} {ops : List Oper} {o : Oper} {s : S} (hs : compS P n ops o = some s) : ∃ x, compOp P o.op o.type = some x ∧
    ((o.guard = none ∧ o.dst = none ∧ s = .n x) ∨ (∃ d, o.guard = none ∧ o.dst = some d ∧ @LT.lt Nat _ d n ∧ s = .o d x) ∨
     (∃ j want oj q, o.guard = some (j, want) ∧ nth ops j = some oj ∧ oj.dst = some q ∧ o.dst = none ∧ s = .gn q want x) ∨
     (∃ j want oj q d, o.guard = some (j, want) ∧ nth ops j = some oj ∧ oj.dst = some q ∧ o.dst = some d ∧ @LT.lt Nat _ d n ∧ s = .g q want d x)) := by
  unfold compS at hs
  cases hx : compOp P o.op o.type with
  | none => rw [hx] at hs; cases hs
  | some x =>
  rw [hx] at hs
  simp only [] at hs
  refine ⟨x, rfl, ?_⟩
  cases hg : o.guard with
  | none =>
    rw [hg] at hs
    cases hdst : o.dst with
    | none => rw [hdst] at hs; injection hs with hs; exact .inl ⟨rfl, rfl, hs.symm⟩
    | some d =>
      rw [hdst] at hs
      simp only [] at hs
      split at hs
      · rename_i hb
        injection hs with hs
        exact .inr (.inl ⟨d, rfl, rfl, Nat.le_of_ble_eq_true hb, hs.symm⟩)
      · cases hs
  | some gw =>
    obtain ⟨j, want⟩ := gw
    rw [hg] at hs
    simp only [] at hs
    cases hj : nth ops j with
    | none => rw [hj] at hs; cases hs
    | some oj =>
    rw [hj] at hs
    simp only [] at hs
    cases hjd : oj.dst with
    | none => rw [hjd] at hs; cases hs
    | some q =>
    rw [hjd] at hs
    cases hdst : o.dst with
    | none => rw [hdst] at hs; injection hs with hs; exact .inr (.inr (.inl ⟨j, want, oj, q, rfl, hj, hjd, rfl, hs.symm⟩))
    | some d =>
      rw [hdst] at hs
      simp only [] at hs
      split at hs
      · rename_i hb
        injection hs with hs
        exact .inr (.inr (.inr ⟨j, want, oj, q, d, rfl, hj, hjd, rfl, Nat.le_of_ble_eq_true hb, hs.symm⟩))
      · cases hs

/-- One operation: it is wanted and yields, or it is passed over; what goes on behind it. -/
theorem one_out {n : Nat} {ops : List Oper} {o : Oper} {s : S} {e : Env} {a : Act} {w : World} {K : Env → H → Prop} (hs : compS P n ops o = some s) (ha : Agree e a) (hn : n ≤ a.tmps.size) (hd : dL P [s] e w.heap K) :
    ∃ x, compOp P o.op o.type = some x ∧
    ((Region.wanted o (yielded ops.toArray a.tmps) = true ∧ vO P e w.heap (fun v h' => ∃ e1, Agree e1 (a.put o.dst v) ∧ K e1 h') x) ∨
     (Region.wanted o (yielded ops.toArray a.tmps) = false ∧ ∃ e1, Agree e1 (a.put o.dst undef) ∧ K e1 w.heap)) := by
  obtain ⟨x, hx, hcase⟩ := compS_out hs
  refine ⟨x, hx, ?_⟩
  rcases hcase with ⟨hg, hdst, rfl⟩ | ⟨d, hg, hdst, hlt, rfl⟩ | ⟨j, want, oj, q, hg, hj, hjd, hdst, rfl⟩ | ⟨j, want, oj, q, d, hg, hj, hjd, hdst, hlt, rfl⟩
  · refine .inl ⟨by simp [Region.wanted, hg], ?_⟩
    simp only [dL] at hd
    rw [hdst]
    have : (fun v h' => ∃ e1, Agree e1 (a.put none v) ∧ K e1 h') = fun (_ : Value) h' => ∃ e1, Agree e1 a ∧ K e1 h' := rfl
    rw [this]
    exact vO_mono hd fun _ h' hk => ⟨e, ha, hk⟩
  · refine .inl ⟨by simp [Region.wanted, hg], ?_⟩
    simp only [dL] at hd
    rw [hdst]
    exact vO_mono hd fun v h' hk => ⟨_, ha.put (Nat.lt_of_lt_of_le hlt hn) v, hk⟩
  · have hw := wanted_guard (o := o) ha hg hj hjd
    simp only [dL] at hd
    rw [hdst]
    rcases guarded_out hd with ⟨hv, hd⟩ | ⟨hv, hd⟩
    · exact .inl ⟨hw.2 hv, vO_mono hd fun _ h' hk => ⟨e, ha, hk⟩⟩
    · exact .inr ⟨by simpa using fun h => hv (hw.1 h), e, ha, hd⟩
  · have hw := wanted_guard (o := o) ha hg hj hjd
    simp only [dL] at hd
    rw [hdst]
    rcases guarded_out hd with ⟨hv, hd⟩ | ⟨hv, hd⟩
    · exact .inl ⟨hw.2 hv, vO_mono hd fun v h' hk => ⟨_, ha.put (Nat.lt_of_lt_of_le hlt hn) v, hk⟩⟩
    · exact .inr ⟨by simpa using fun h => hv (hw.1 h), _, ha.put (Nat.lt_of_lt_of_le hlt hn) _, hd⟩

/-- What holds of a state that a region has come to, against the one in which it began. -/
structure Now (a0 : Act) (w0 : World) (n : Nat) (wr : List Nat) (a : Act) (w : World) : Prop where
  rest : Rest w0 w
  defers : a.defers = a0.defers
  size : a.tmps.size = a0.tmps.size
  big : n ≤ a0.tmps.size
  keep : ∀ t, t ∉ wr → a.tmps.getD t undef = a0.tmps.getD t undef

theorem Now.put {a0 a : Act} {w0 w w' : World} {n : Nat} {wr : List Nat} (h : Now a0 w0 n wr a w) {d : Option Nat} (hd : ∀ t, d = some t → t ∈ wr) (hr : Rest w w') (v : Value) : Now a0 w0 n wr (a.put d v) w' :=
  ⟨h.rest.trans hr, (put_defers _ _ _).trans h.defers, (put_size _ _ _).trans h.size, h.big, fun t ht => by
    cases d with
    | none => exact h.keep t ht
    | some q => rw [put_get_ne v (fun he => ht (by rw [he]; exact hd q rfl)), h.keep t ht]⟩

theorem dst_wr {n : Nat} {ops : List Oper} {o : Oper} {s : S} (hs : compS P n ops o = some s) : ∀ t, o.dst = some t → t ∈ s.wr := by
  obtain ⟨x, _, hcase⟩ := compS_out hs
  intro t ht
  rcases hcase with ⟨_, hd, rfl⟩ | ⟨d, _, hd, _, rfl⟩ | ⟨_, _, _, _, _, _, _, hd, rfl⟩ | ⟨_, _, _, _, d, _, _, _, hd, _, rfl⟩ <;> rw [hd] at ht <;> first | (injection ht with ht; subst ht; exact List.Mem.head _) | cases ht

theorem alts_out {f : Nat → Option (S × PS)} : ∀ (l : List Nat) (p : PS), alts f l = some p → ∀ (e : Env) (h : H) (K : Env → H → Prop), dP P p e h K →
    ∀ i ∈ l, ∃ s q, f i = some (s, q) ∧ (dL P [s] e h fun e h => dP P q e h K) ∧ (∀ t ∈ s.wr, t ∈ p.wr) ∧ (∀ t ∈ q.wr, t ∈ p.wr) := by
  intro l
  induction l with
  | nil => intro p _ e h K _ i hi; cases hi
  | cons j r ih =>
    intro p hp e h K hd i hi
    simp only [alts] at hp
    split at hp
    · rename_i s q rp hf hr
      injection hp with hp
      subst hp
      have hd := alt_out hd
      rcases List.mem_cons.1 hi with rfl | hi
      · exact ⟨s, q, hf, hd.1, by simp [PS.wr]; intro t ht; simp [ht], by simp [PS.wr]; intro t ht; simp [ht]⟩
      · obtain ⟨s', q', h1, h2, h3, h4⟩ := ih rp hr e h K hd.2 i hi
        exact ⟨s', q', h1, h2, fun t ht => by simp [PS.wr, h3 t ht], fun t ht => by simp [PS.wr, h4 t ht]⟩
    · cases hp

theorem one_step {n : Nat} {ops : Array Oper} {i : Nat} {o : Oper} {s : S} {e : Env} {a : Act} {w : World} {K : Env → H → Prop} {Q : Exit → Act → World → Prop} {nx : Act → World → Prop} (ho : nth ops.toList i = some o) (hs : compS P n ops.toList o = some s)
    (ha : Agree e a) (hn : n ≤ a.tmps.size) (hd : dL P [s] e w.heap K)
    (hk : ∀ v w' e1, Rest w w' → Agree e1 (a.put o.dst v) → K e1 w'.heap → nx (a.put o.dst v) w') : wpOp P ops Q i nx a w := by
  have ho' : ops[i]? = some o := by rw [← nth_arr]; exact ho
  obtain ⟨x, hx, hc⟩ := one_out hs ha hn hd
  rw [show ops.toList.toArray = ops from by simp] at hc
  unfold wpOp
  simp only [ho']
  rcases hc with ⟨hw, hv⟩ | ⟨hw, e1, ha1, hk1⟩
  · rw [if_pos hw]
    exact .inl (wp_of_raw ha (op_all (st := false) (fun h => by cases h) hx hv) fun v w' hr ⟨e1, ha1, hk1⟩ => hk v w' e1 hr ha1 hk1)
  · rw [if_neg (by simp [hw])]
    exact hk undef w e1 (Rest.refl w) ha1 hk1

theorem find_out {p : Nat → Bool} {l : List Nat} {i : Nat} (h : l.find? p = some i) : i ∈ l ∧ p i = true := ⟨List.mem_of_find?_eq_some h, List.find?_some h⟩

theorem planOf_sound {n : Nat} {ops : Array Oper} (hsel : Region.noSelect ops = true) {a0 : Act} {w0 : World} {wr : List Nat} {Kn : Env → H → Prop} {Kx : SX → Env → H → Prop} :
    ∀ (f : Nat) (listed : Array Bool) (p : PS) (e : Env) (a : Act) (w : World), planOf P n ops f listed = some p → Agree e a → Now a0 w0 n wr a w → (∀ t ∈ p.wr, t ∈ wr) → dP P p e w.heap Kn →
      wpAny P .any ops (Post a0 w0 n wr Kn Kx) f listed a w := by
  have fin : ∀ (e : Env) (a : Act) (w : World), Agree e a → Now a0 w0 n wr a w → Kn e w.heap → Post a0 w0 n wr Kn Kx .normal a w := fun e a w ha hw hk =>
    ⟨hw.rest, hw.defers, by rw [hw.size]; exact hw.big, hw.keep, e, ha, hk⟩
  intro f
  induction f with
  | zero =>
    intro listed p e a w hp ha hnow hwr hd
    simp only [planOf] at hp
    split at hp
    · rename_i hr
      injection hp with hp
      subst hp
      exact wpAny_done hr (fin e a w ha hnow hd) 0
    · cases hp
  | succ f ih =>
    intro listed p e a w hp ha hnow hwr hd
    have hn : n ≤ a.tmps.size := by rw [hnow.size]; exact hnow.big
    simp only [planOf] at hp
    split at hp
    · rename_i hr
      injection hp with hp
      subst hp
      exact wpAny_done hr (fin e a w ha hnow hd) _
    · rename_i rs hne
      split at hp
      · rename_i i hfind
        obtain ⟨hmem, hpi⟩ := find_out hfind
        simp only [Bool.and_eq_true] at hpi
        obtain ⟨hfree, hpure⟩ := hpi
        split at hp
        · rename_i o ho
          split at hp
          · rename_i s q hs hq
            injection hp with hp
            subst hp
            simp only [dP] at hd
            have ho' : ops[i]? = some o := by rw [← nth_arr]; exact ho
            obtain ⟨x, hx, hc⟩ := one_out hs ha hn hd
            rw [show ops.toList.toArray = ops from by simp] at hc
            have hpx : x.pure = true := by
              unfold pureAt at hpure
              rw [ho] at hpure
              simp only [hx] at hpure
              exact hpure
            have hsx : x.still = true := pure_still hpx
            rcases hc with ⟨hw, hv⟩ | ⟨hw, e1, ha1, hk1⟩
            · obtain ⟨v, ⟨e1, ha1, hk1⟩, hall⟩ := pure_all hpx hv
              refine wpAny_take (v := v) ho' hsel hfree (by simpa using hmem) (fun c a w hq => by obtain ⟨_, _, _, _, _, _, hf⟩ := hq; exact hf.elim) (.inl ⟨hw, fun w2 => ?_⟩) ?_
              · obtain ⟨v', hr, rfl⟩ := exact_of hx hsx (hall w2.heap (fun v' _ => v' = v) rfl) rfl rfl ha
                exact hr
              · exact ih _ q e1 _ w hq ha1 (hnow.put (fun t ht => hwr t (by simp [PS.wr, dst_wr hs t ht])) (Rest.refl w) v) (fun t ht => hwr t (by simp [PS.wr, ht])) hk1
            · refine wpAny_take (v := undef) ho' hsel hfree (by simpa using hmem) (fun c a w hq => by obtain ⟨_, _, _, _, _, _, hf⟩ := hq; exact hf.elim) (.inr ⟨hw, rfl⟩) ?_
              exact ih _ q e1 _ w hq ha1 (hnow.put (fun t ht => hwr t (by simp [PS.wr, dst_wr hs t ht])) (Rest.refl w) undef) (fun t ht => hwr t (by simp [PS.wr, ht])) hk1
          · cases hp
        · cases hp
      · refine wpAny_all rfl (fun h => hne h) fun i hi => ?_
        obtain ⟨s, q, hf, hd1, hw1, hw2⟩ := alts_out _ p hp e w.heap Kn hd i hi
        split at hf
        · rename_i o ho
          split at hf
          · rename_i s' q' hs hq
            injection hf with hf
            injection hf with h1 h2
            subst h1 h2
            refine one_step ho hs ha hn hd1 fun v w' e1 hr ha1 hk1 => ?_
            exact ih _ q' e1 _ w' hq ha1 (hnow.put (fun t ht => hwr t (hw1 t (dst_wr hs t ht))) hr v) (fun t ht => hwr t (hw2 t ht)) hk1
          · cases hf
        · cases hf

/-! ### First what leaves the world as it is -/
theorem still_out {n : Nat} {ops : List Oper} {a0 : Act} {w0 w : World} {wr : List Nat} {K : Env → H → Prop} {nx : Act → Prop} : ∀ (m : Nat) (l : List Oper) (sl : List S) (e : Env) (a : Act), m ≤ stillHead P l → compL P n ops l = some sl → Agree e a →
    Now a0 w0 n wr a w → (∀ s ∈ sl, ∀ t ∈ s.wr, t ∈ wr) → dL P sl e w.heap K →
    (∀ e1 a1, Agree e1 a1 → Now a0 w0 n wr a1 w → (∃ sl2, compL P n ops (l.drop m) = some sl2 ∧ (∀ s ∈ sl2, ∀ t ∈ s.wr, t ∈ wr) ∧ dL P sl2 e1 w.heap K) → nx a1) →
    wpStill P ops.toArray w nx (l.take m) a := by
  intro m
  induction m with
  | zero =>
    intro l sl e a _ hc ha hnow hwr hd hk
    rw [List.take_zero]
    exact hk e a ha hnow ⟨sl, by simpa using hc, hwr, hd⟩
  | succ m ih =>
    intro l sl e a hm hc ha hnow hwr hd hk
    have hn : n ≤ a.tmps.size := by rw [hnow.size]; exact hnow.big
    match l, hm, hc, hk with
    | [], hm, _, _ => simp [stillHead] at hm
    | [_], hm, _, _ => simp [stillHead] at hm
    | o :: o2 :: r, hm, hc, hk =>
      simp only [stillHead] at hm
      simp only [compL] at hc
      cases hs : compS P n ops o with
      | none => rw [hs] at hc; cases hc
      | some s =>
      cases hl : compL P n ops (o2 :: r) with
      | none => rw [hs] at hc; simp only [compL] at hl; rw [hl] at hc; cases hc
      | some rl =>
      have hc' : some (s :: rl) = some sl := by
        rw [← hc, hs]
        simp only [compL] at hl
        rw [hl]
      injection hc' with hc'
      subst hc'
      have hd1 : dL P [s] e w.heap fun e h => dL P rl e h K := by
        cases s <;> exact hd
      obtain ⟨x, hx, hcs⟩ := one_out hs ha hn hd1
      rw [hx] at hm
      simp only [] at hm
      cases hsx : x.still with
      | false => rw [hsx] at hm; simp at hm
      | true =>
      rw [hsx] at hm
      simp only [if_true] at hm
      rw [List.take_succ_cons]
      unfold wpStill
      have go : ∀ (v : Value) (e1 : Env), Agree e1 (a.put o.dst v) → dL P rl e1 w.heap K → wpStill P ops.toArray w nx ((o2 :: r).take m) (a.put o.dst v) := fun v e1 ha1 hk1 =>
        ih (o2 :: r) rl e1 _ (by omega) hl ha1 (hnow.put (fun t ht => hwr s (by simp) t (dst_wr hs t ht)) (Rest.refl w) v) (fun s' hs' => hwr s' (by simp [hs'])) hk1 (by simpa using hk)
      rcases hcs with ⟨hw, hv⟩ | ⟨hw, e1, ha1, hk1⟩
      · rw [if_pos hw]
        obtain ⟨v, hr, e1, ha1, hk1⟩ := exact_of hx hsx hv rfl rfl ha
        unfold Oper.still
        rw [hr]
        exact ⟨rfl, go v e1 ha1 hk1⟩
      · rw [if_neg (by simp [hw])]
        exact go undef e1 ha1 hk1

theorem dL_now {n : Nat} (ops : List Oper) {a0 : Act} {w0 : World} {wr : List Nat} {Kn : Env → H → Prop} {Kx : SX → Env → H → Prop} : ∀ (l : List Oper) (sl : List S) (e : Env) (a : Act) (w : World), compL P n ops l = some sl → Agree e a →
    Now a0 w0 n wr a w → (∀ s ∈ sl, ∀ t ∈ s.wr, t ∈ wr) → dL P sl e w.heap Kn → wpList P ops.toArray (Post a0 w0 n wr Kn Kx) l a w := by
  intro l
  induction l with
  | nil =>
    intro sl e a w hc ha hnow _ hd
    simp only [compL, Option.some.injEq] at hc
    subst hc
    exact ⟨hnow.rest, hnow.defers, by rw [hnow.size]; exact hnow.big, hnow.keep, e, ha, hd⟩
  | cons o r ih =>
    intro sl e a w hc ha hnow hwr hd
    have hn : n ≤ a.tmps.size := by rw [hnow.size]; exact hnow.big
    simp only [compL] at hc
    cases hs : compS P n ops o with
    | none => rw [hs] at hc; cases hc
    | some s =>
    cases hl : compL P n ops r with
    | none => rw [hs, hl] at hc; cases hc
    | some rl =>
    rw [hs, hl] at hc
    injection hc with hc
    subst hc
    have hd1 : dL P [s] e w.heap fun e h => dL P rl e h Kn := by
      cases s <;> exact hd
    obtain ⟨x, hx, hcs⟩ := one_out hs ha hn hd1
    unfold wpList
    have go : ∀ (v : Value) (w' : World) (e1 : Env), Rest w w' → Agree e1 (a.put o.dst v) → dL P rl e1 w'.heap Kn → wpList P ops.toArray (Post a0 w0 n wr Kn Kx) r (a.put o.dst v) w' := fun v w' e1 hr ha1 hk1 =>
      ih rl e1 _ w' hl ha1 (hnow.put (fun t ht => hwr s (by simp) t (dst_wr hs t ht)) hr v) (fun s' hs' => hwr s' (by simp [hs'])) hk1
    rcases hcs with ⟨hw, hv⟩ | ⟨hw, e1, ha1, hk1⟩
    · rw [if_pos hw]
      exact .inl (wp_of_raw ha (op_all (st := false) (fun h => by cases h) hx hv) fun v w' hr ⟨e1, ha1, hk1⟩ => go v w' e1 hr ha1 hk1)
    · rw [if_neg (by simp [hw])]
      exact go undef w e1 (Rest.refl w) ha1 hk1

/-! ### A region in which each operation but those at the end touches nothing that was there -/
theorem pre_run : ∀ (pre : List (Nat × SO)) (e : Env) (h : H) (K : Env → H → Prop), ordB pre = true → dL P (preL pre) e h K →
    ∃ e1, K e1 h ∧ (∀ t, t ∉ pre.map (·.1) → e1.get t = e.get t) ∧ ∀ d x, (d, x) ∈ pre → ∀ (e' : Env) (h' : H) (k' : Value → H → Prop), Only [] h h' → (∀ ts, x.tm = some ts → ∀ t ∈ ts, e'.get t = e1.get t) → k' (e1.get d) h' → vO P e' h' k' x := by
  intro pre
  induction pre with
  | nil => intro e h K _ hd; exact ⟨e, hd, fun _ _ => rfl, fun _ _ hm => by cases hm⟩
  | cons p r ih =>
    obtain ⟨d, x⟩ := p
    intro e h K ho hd
    simp only [ordB, Bool.and_eq_true] at ho
    obtain ⟨⟨⟨hst, htm⟩, hdr⟩, hor⟩ := ho
    simp only [preL, dL] at hd
    obtain ⟨v, hv, hall⟩ := still_all hst hd
    obtain ⟨e1, hk, hold, hpre⟩ := ih _ _ _ hor hv
    have hdr' : d ∉ r.map (·.1) := fun hm => by rw [(mem_iff d _).2 hm] at hdr; cases hdr
    have hed : e1.get d = v := by
      rw [hold d hdr']
      simp [Env.get]
    refine ⟨e1, hk, fun t ht => ?_, fun d' x' hm e' h' k' ho' hts hk' => ?_⟩
    · simp only [List.map_cons, List.mem_cons, not_or] at ht
      rw [hold t ht.2]
      simp only [Env.get]
      have hb : Nat.beq d t = false := by
        cases hb : Nat.beq d t with
        | false => rfl
        | true => exact absurd (Nat.eq_of_beq_eq_true hb).symm ht.1
      rw [hb, cond_false]
    · rcases List.mem_cons.1 hm with hm | hm
      · injection hm with h1 h2
        subst h1 h2
        cases hx : x'.tm with
        | none => rw [hx] at htm; cases htm
        | some ts =>
        rw [hx] at htm
        simp only [Bool.and_eq_true, List.all_eq_true] at htm
        refine vO_on (e := e) hx (fun t ht => ?_) (hall h' k' ho' (by rw [← hed]; exact hk'))
        rw [hts ts hx t ht]
        have h1 : t ∉ r.map (·.1) := fun hm => by have := htm.2 t ht; rw [(mem_iff t _).2 hm] at this; cases this
        rw [hold t h1]
        simp only [Env.get]
        have hb : Nat.beq d' t = false := by
          cases hb : Nat.beq d' t with
          | false => rfl
          | true =>
            have := Nat.eq_of_beq_eq_true hb
            subst this
            have := htm.1
            rw [(mem_iff d' _).2 ht] at this
            cases this
        rw [hb, cond_false]
      · exact hpre d' x' hm e' h' k' ho' hts hk'

theorem needs_out {Q : Nat → Value → H → Prop} {h : H} {e' : Env} {k : Env → Prop} : ∀ (ds : List Nat) (e : Env), needs Q h ds e k → (∀ t ∈ ds, Q t (e'.get t) h) →
    ∃ e2, k e2 ∧ (∀ t ∈ ds, e2.get t = e'.get t) ∧ ∀ t, t ∉ ds → e2.get t = e.get t := by
  intro ds
  induction ds with
  | nil => intro e hn _; exact ⟨e, hn, fun _ h => (by cases h), fun _ _ => rfl⟩
  | cons d r ih =>
    intro e hn hq
    simp only [needs, force_eq] at hn
    obtain ⟨e2, hk, h1, h2⟩ := ih _ (hn _ (hq d (by simp))) (fun t ht => hq t (by simp [ht]))
    refine ⟨e2, hk, fun t ht => ?_, fun t ht => ?_⟩
    · by_cases hr : t ∈ r
      · exact h1 t hr
      · rcases List.mem_cons.1 ht with rfl | ht
        · rw [h2 _ hr]; simp [Env.get]
        · exact absurd ht hr
    · simp only [List.mem_cons, not_or] at ht
      rw [h2 t ht.2]
      simp only [Env.get]
      have hb : Nat.beq d t = false := by
        cases hb : Nat.beq d t with
        | false => rfl
        | true => exact absurd (Nat.eq_of_beq_eq_true hb).symm ht.1
      rw [hb, cond_false]
theorem oblH_out {Q : Nat → Value → H → Prop} {e : Env} {h : H} : ∀ (hd : List (Nat × List Nat × SO)), oblH P Q e h hd → ∀ d ds x, (d, ds, x) ∈ hd → ∀ h', Keep h.size h h' → needs Q h' ds e fun e' => vO P e' h' (fun v h'' => Keep h.size h' h'' ∧ Q d v h'') x := by
  intro hd
  induction hd with
  | nil => intro _ d ds x hm; cases hm
  | cons p r ih =>
    obtain ⟨d0, ds0, x0⟩ := p
    intro ho d ds x hm
    rcases List.mem_cons.1 hm with hm | hm
    · injection hm with h1 h2
      injection h2 with h2 h3
      subst h1 h2 h3
      exact ho.1
    · exact ih ho.2 d ds x hm

theorem ent_out {ops : Array Oper} {i d : Nat} {x : SO} {ts : List Nat} (h : ent P ops i = some (d, x, ts)) : ∃ o, nth ops.toList i = some o ∧ o.guard = none ∧ o.dst = some d ∧ compOp P o.op o.type = some x ∧ x.tm = some ts := by
  unfold ent at h
  split at h
  · cases h
  · rename_i o ho
    split at h
    · rename_i d' x' hg hdst hx
      split at h
      · rename_i ts' ht
        injection h with h
        injection h with h1 h2
        injection h2 with h2 h3
        subst h1 h2 h3
        exact ⟨o, ho, hg, hdst, hx, ht⟩
      · cases h
    · cases h
theorem cls_mem {ops : Array Oper} : ∀ (r i : Nat) (hdD : List Nat) (pre : List (Nat × SO)) (hd : List (Nat × List Nat × SO)), clsOf P ops r i hdD = some (pre, hd) →
    (∀ j, i ≤ j → j < i + r → ∃ d x ts, ent P ops j = some (d, x, ts) ∧ ((d, x) ∈ pre ∨ ∃ ds, (d, ds, x) ∈ hd)) ∧
    (∀ d, d ∈ pre.map (·.1) ∨ d ∈ hd.map (·.1) → ∃ j, i ≤ j ∧ j < i + r ∧ ∃ x ts, ent P ops j = some (d, x, ts)) := by
  intro r
  induction r with
  | zero =>
    intro i hdD pre hd hc
    simp only [clsOf, Option.some.injEq, Prod.mk.injEq] at hc
    obtain ⟨rfl, rfl⟩ := hc
    exact ⟨fun j h1 h2 => by omega, fun d hd => by simp at hd⟩
  | succ r ih =>
    intro i hdD pre hd hc
    simp only [clsOf] at hc
    split at hc
    · cases hc
    · rename_i d x ts he
      cases hb : (x.still && ts.all fun t => !mem t hdD) with
      | true =>
        rw [hb, cond_true] at hc
        split at hc
        · rename_i pre' hd' hr
          injection hc with hc
          injection hc with h1 h2
          subst h1 h2
          obtain ⟨g1, g2⟩ := ih _ _ _ _ hr
          refine ⟨fun j h1 h2 => ?_, fun d' hd' => ?_⟩
          · by_cases hj : j = i
            · subst hj
              exact ⟨d, x, ts, he, .inl (by simp)⟩
            · obtain ⟨d', x', ts', a1, a2⟩ := g1 j (by omega) (by omega)
              exact ⟨d', x', ts', a1, a2.imp (fun h => by simp [h]) id⟩
          · by_cases hq : d' = d
            · subst hq
              exact ⟨i, by omega, by omega, x, ts, he⟩
            · obtain ⟨j, a1, a2, a3⟩ := g2 d' (by simpa [hq] using hd')
              exact ⟨j, by omega, by omega, a3⟩
        · cases hc
      | false =>
        rw [hb, cond_false] at hc
        split at hc
        · rename_i pre' hd' hr
          injection hc with hc
          injection hc with h1 h2
          subst h1 h2
          obtain ⟨g1, g2⟩ := ih _ _ _ _ hr
          refine ⟨fun j h1 h2 => ?_, fun d' hd' => ?_⟩
          · by_cases hj : j = i
            · subst hj
              exact ⟨d, x, ts, he, .inr ⟨_, List.mem_cons_self⟩⟩
            · obtain ⟨d', x', ts', a1, a2⟩ := g1 j (by omega) (by omega)
              exact ⟨d', x', ts', a1, a2.imp id (fun ⟨ds, h⟩ => ⟨ds, by simp [h]⟩)⟩
          · by_cases hq : d' = d
            · subst hq
              exact ⟨i, by omega, by omega, x, ts, he⟩
            · obtain ⟨j, a1, a2, a3⟩ := g2 d' (by simpa [hq] using hd')
              exact ⟨j, by omega, by omega, a3⟩
        · cases hc

theorem clo_sub {ops : Array Oper} {L : Nat → Prop} (hL : ∀ k, L k → ∀ j ∈ aft ops k, L j) : ∀ (j : Nat) (S : List Nat), (∀ i ∈ S, L i) → ∀ i ∈ clo ops j S, L i := by
  intro j
  induction j with
  | zero => intro S hS; exact hS
  | succ j ih =>
    intro S hS
    simp only [clo]
    cases hm : mem j S with
    | true =>
      refine ih _ fun i hi => ?_
      rcases List.mem_append.1 hi with hi | hi
      · exact hL j (hS j ((mem_iff j S).1 hm)) i hi
      · exact hS i hi
    | false => exact ih _ hS
theorem tailAt_cov {ops : Array Oper} : ∀ (m k : Nat), tailAt ops m ≤ k → k < m → cov ops k = true := by
  intro m
  induction m with
  | zero => intro k _ h; omega
  | succ m ih =>
    intro k h1 h2
    simp only [tailAt] at h1
    cases hc : cov ops m with
    | true =>
      rw [hc, cond_true] at h1
      by_cases hk : k = m
      · rw [hk]; exact hc
      · exact ih k h1 (by omega)
    | false => rw [hc, cond_false] at h1; omega
theorem tailAt_le {ops : Array Oper} : ∀ m : Nat, tailAt ops m ≤ m := by
  intro m
  induction m with
  | zero => exact Nat.le_refl _
  | succ m ih =>
    simp only [tailAt]
    cases cov ops m with
    | true => rw [cond_true]; omega
    | false => exact Nat.le_refl _

theorem ready_iff {ops : Array Oper} {listed : Array Bool} {i : Nat} (hs : listed.size = ops.size) : i ∈ Region.ready .any ops listed ↔ i < ops.size ∧ listed.getD i false = false ∧ ∀ j ∈ aft ops i, listed.getD j false = true := by
  unfold Region.ready aft
  rw [List.mem_filter, List.mem_range, nth_arr]
  by_cases hi : i < ops.size
  · have h1 : ops[i]? = some ops[i] := Array.getElem?_eq_getElem hi
    have h2 : listed.getD i true = listed.getD i false := by
      rw [Array.getD_eq_getD_getElem?, Array.getD_eq_getD_getElem?, Array.getElem?_eq_getElem (by omega)]
      rfl
    rw [h1, h2]
    simp only [Option.map_some, Option.getD_some, Bool.and_eq_true, Bool.not_eq_true', List.mem_map, List.mem_filter, Array.mem_toList_iff, forall_exists_index, and_imp]
    constructor
    · rintro ⟨_, h3, h4⟩
      refine ⟨hi, h3, fun j e he hb hj => ?_⟩
      subst hj
      rw [Array.all_eq_true'] at h4
      have := h4 e he
      rw [hb] at this
      simpa using this
    · rintro ⟨_, h3, h4⟩
      refine ⟨hi, h3, ?_⟩
      rw [Array.all_eq_true']
      intro e he
      cases hb : Region.binds .any e with
      | false => rfl
      | true => simpa using h4 _ e he hb rfl
  · exact ⟨fun h => absurd h.1 hi, fun h => absurd h.1 hi⟩
theorem getD_set {listed : Array Bool} {i j : Nat} (hi : i < listed.size) : (listed.setIfInBounds i true).getD j false = if j = i then true else listed.getD j false := by
  rw [Array.getD_eq_getD_getElem?, Array.getD_eq_getD_getElem?, Array.getElem?_setIfInBounds]
  by_cases h : i = j
  · subst h; simp [hi]
  · rw [if_neg h, if_neg (fun h' => h h'.symm)]
theorem countP_lt {p q : Nat → Bool} : ∀ (l : List Nat), (∀ x ∈ l, q x = true → p x = true) → (∃ x ∈ l, p x = true ∧ q x = false) → l.countP q < l.countP p := by
  intro l
  induction l with
  | nil => rintro _ ⟨x, hx, _⟩; cases hx
  | cons a r ih =>
    intro h1 h2
    have hle : r.countP q ≤ r.countP p := List.countP_mono_left fun x hx => h1 x (by simp [hx])
    simp only [List.countP_cons]
    obtain ⟨x, hx, hp, hq⟩ := h2
    rcases List.mem_cons.1 hx with rfl | hx
    · rw [hp, hq]; simp; omega
    · have := ih (fun x hx => h1 x (by simp [hx])) ⟨x, hx, hp, hq⟩
      have h3 := h1 a (by simp)
      cases hqa : q a with
      | true => rw [h3 hqa]; simp; omega
      | false => cases p a <;> simp <;> omega

theorem countP_ge {p : Nat → Bool} {s : Nat} : ∀ m : Nat, (∀ i, s ≤ i → i < m → p i = true) → m - s ≤ (List.range m).countP p := by
  intro m
  induction m with
  | zero => intro _; omega
  | succ m ih =>
    intro h
    have h1 := ih fun i h2 h3 => h i h2 (by omega)
    rw [List.range_succ, List.countP_append]
    by_cases hs : s ≤ m
    · have := h m hs (by omega)
      simp only [List.countP_cons, List.countP_nil, this]
      simp
      omega
    · omega

/-- The end of the region, one behind the other. -/
theorem tail_run {n : Nat} {ops : Array Oper} {s : Nat} {a0 : Act} {w0 : World} {wr : List Nat} {Kn : Env → H → Prop} {Kx : SX → Env → H → Prop} (hcov : ∀ k, s ≤ k → k < ops.size → cov ops k = true)
    (hlt : ∀ i, i < ops.size → ∀ j ∈ aft ops i, j < i) : ∀ (f k : Nat) (listed : Array Bool) (tl : List S) (e : Env) (a : Act) (w : World), s ≤ k → k ≤ ops.size → ops.size - k ≤ f → listed.size = ops.size → (∀ i, i < ops.size → (listed.getD i false = true ↔ i < k)) →
      compL P n ops.toList (ops.toList.drop k) = some tl → (∀ s ∈ tl, ∀ t ∈ s.wr, t ∈ wr) → Agree e a → Now a0 w0 n wr a w → dL P tl e w.heap Kn → wpAny P .any ops (Post a0 w0 n wr Kn Kx) f listed a w := by
  intro f
  induction f with
  | zero =>
    intro k listed tl e a w hsk hkm hf hsz hl hc hwr ha hnow hd
    have hk : k = ops.size := by omega
    rw [List.drop_of_length_le (by simp; omega)] at hc
    injection hc with hc
    subst hc
    have hr : Region.ready .any ops listed = [] := by
      cases hr : Region.ready .any ops listed with
      | nil => rfl
      | cons i r =>
        have := (ready_iff (i := i) hsz).1 (by rw [hr]; simp)
        rw [(hl i this.1).2 (by omega)] at this
        cases this.2.1
    exact wpAny_done hr ⟨hnow.rest, hnow.defers, by rw [hnow.size]; exact hnow.big, hnow.keep, e, ha, hd⟩ 0
  | succ f ih =>
    intro k listed tl e a w hsk hkm hf hsz hl hc hwr ha hnow hd
    by_cases hk : k = ops.size
    · rw [List.drop_of_length_le (by simp; omega)] at hc
      injection hc with hc
      subst hc
      have hr : Region.ready .any ops listed = [] := by
        cases hr : Region.ready .any ops listed with
        | nil => rfl
        | cons i r =>
          have := (ready_iff (i := i) hsz).1 (by rw [hr]; simp)
          rw [(hl i this.1).2 (by omega)] at this
          cases this.2.1
      exact wpAny_done hr ⟨hnow.rest, hnow.defers, by rw [hnow.size]; exact hnow.big, hnow.keep, e, ha, hd⟩ _
    · have hkl : k < ops.size := by omega
      have hn : n ≤ a.tmps.size := by rw [hnow.size]; exact hnow.big
      rw [List.drop_eq_getElem_cons (by simpa using hkl)] at hc
      simp only [compL] at hc
      cases hs : compS P n ops.toList (ops.toList[k]'(by simpa using hkl)) with
      | none => rw [hs] at hc; cases hc
      | some s' =>
      cases hl2 : compL P n ops.toList (ops.toList.drop (k + 1)) with
      | none => rw [hs, hl2] at hc; cases hc
      | some rl =>
      rw [hs, hl2] at hc
      injection hc with hc
      subst hc
      have hready : k ∈ Region.ready .any ops listed := by
        refine (ready_iff hsz).2 ⟨hkl, ?_, fun j hj => (hl j (by have := hlt k hkl j hj; omega)).2 (hlt k hkl j hj)⟩
        cases hq : listed.getD k false with
        | false => rfl
        | true => have := (hl k hkl).1 hq; omega
      refine wpAny_all rfl (fun h => by rw [h] at hready; cases hready) fun i hi => ?_
      obtain ⟨hi1, hi2, hi3⟩ := (ready_iff hsz).1 hi
      have hik : i = k := by
        have h1 : ¬ i < k := fun h => by rw [(hl i hi1).2 h] at hi2; cases hi2
        by_cases h2 : i = k
        · exact h2
        · have hc := hcov i (by omega) hi1
          unfold cov at hc
          rw [List.all_eq_true] at hc
          have h3 := (mem_iff k _).1 (hc k (by simp; omega))
          have h4 := clo_sub (ops := ops) (L := fun j => j < ops.size ∧ listed.getD j false = true) (fun q hq j hj => by
            have hjq := hlt q hq.1 j hj
            have := (hl q hq.1).1 hq.2
            exact ⟨by omega, (hl j (by omega)).2 (by omega)⟩) i (aft ops i) (fun j hj => ⟨by have := hlt i hi1 j hj; omega, hi3 j hj⟩) k h3
          have := (hl k hkl).1 h4.2
          omega
      subst hik
      have hd1 : dL P [s'] e w.heap fun e h => dL P rl e h Kn := by
        cases s' <;> exact hd
      refine one_step (s := s') (o := ops.toList[i]'(by simpa using hkl)) ?_ hs ha hn hd1 fun v w' e1 hr ha1 hk1 => ?_
      · rw [nth_eq]; exact List.getElem?_eq_getElem (by simpa using hkl)
      refine ih (i + 1) _ rl e1 _ w' (by omega) (by omega) (by omega) (by simpa using hsz) (fun j hj => ?_) hl2 (fun s hs => hwr s (by simp [hs])) ha1 (hnow.put (fun t ht => hwr s' (by simp) t (dst_wr hs t ht)) hr v) hk1
      rw [getD_set (by omega)]
      by_cases hji : j = i
      · simp [hji]
      · rw [if_neg hji, hl j hj]; omega

theorem free_run {n : Nat} {ops : Array Oper} {s : Nat} {pre : List (Nat × SO)} {hd : List (Nat × List Nat × SO)} {tl : List S} {a0 : Act} {w0 : World} {wr : List Nat} {Kn : Env → H → Prop} {Kx : SX → Env → H → Prop}
    (hs : s = tailAt ops ops.size) (hcls : clsOf P ops s 0 [] = some (pre, hd)) (htl : compL P n ops.toList (ops.toList.drop s) = some tl) (hok : okF P n ops s pre hd = true)
    (hwp : ∀ t ∈ pre.map (·.1), t ∈ wr) (hwh : ∀ t ∈ hd.map (·.1), t ∈ wr) (hwt : ∀ s ∈ tl, ∀ t ∈ s.wr, t ∈ wr) {e0 e1 : Env} {h0 : H} {Q : Nat → Value → H → Prop}
    (hold : ∀ t, t ∉ pre.map (·.1) → e1.get t = e0.get t)
    (hpre : ∀ d x, (d, x) ∈ pre → ∀ (e' : Env) (h' : H) (k' : Value → H → Prop), Only [] h0 h' → (∀ ts, x.tm = some ts → ∀ t ∈ ts, e'.get t = e1.get t) → k' (e1.get d) h' → vO P e' h' k' x)
    (hQ : ∀ t v h1 h2, Sims h1 h2 → Q t v h1 → Q t v h2) (hobl : oblH P Q e1 h0 hd) (hfin : ∀ h', Keep h0.size h0 h' → needs Q h' (hd.map (·.1)) e1 fun e' => dL P tl e' h' Kn) :
    ∀ (f : Nat) (listed : Array Bool) (e : Env) (a : Act) (w : World), listed.size = ops.size → (List.range ops.size).countP (fun i => !listed.getD i false) ≤ f → (∀ k, k < ops.size → listed.getD k false = true → ∀ j ∈ aft ops k, listed.getD j false = true) →
      (∀ k, s ≤ k → k < ops.size → listed.getD k false = false) → Keep h0.size h0 w.heap → (∀ i, i < s → listed.getD i false = true → ∀ d x ts, ent P ops i = some (d, x, ts) → (d ∈ pre.map (·.1) → e.get d = e1.get d) ∧ (d ∈ hd.map (·.1) → Q d (e.get d) w.heap)) →
      (∀ t, (∀ i, i < s → listed.getD i false = true → wrote ops i t = false) → e.get t = e0.get t) → Agree e a → Now a0 w0 n wr a w → wpAny P .any ops (Post a0 w0 n wr Kn Kx) f listed a w := by
  unfold okF at hok
  simp only [Bool.and_eq_true, List.all_eq_true, List.mem_range] at hok
  obtain ⟨⟨⟨⟨ok1, ok2⟩, ok3⟩, ok4⟩, ok5⟩ := hok
  have hlt : ∀ i, i < ops.size → ∀ j ∈ aft ops i, j < i := fun i hi j hj => Nat.le_of_ble_eq_true (ok2 i hi j hj)
  have hcov : ∀ k, s ≤ k → k < ops.size → cov ops k = true := fun k h1 h2 => tailAt_cov ops.size k (by omega) h2
  have hsm : s ≤ ops.size := by rw [hs]; exact tailAt_le _
  obtain ⟨hm1, hm2⟩ := cls_mem (P := P) s 0 [] pre hd hcls
  simp only [Nat.zero_add, Nat.zero_le, true_and, forall_const] at hm1 hm2
  have wrote_ent : ∀ {j d : Nat} {x : SO} {ts : List Nat}, ent P ops j = some (d, x, ts) → ∀ t, wrote ops j t = Nat.beq d t := fun he t => by
    obtain ⟨o, ho, _, hdst, _⟩ := ent_out he
    unfold wrote dstAt
    simp only [ho, hdst]
  have tm_ent : ∀ {j d : Nat} {x : SO} {ts : List Nat}, ent P ops j = some (d, x, ts) → x.tm = some ts := fun he => by
    obtain ⟨o, _, _, _, _, ht⟩ := ent_out he
    exact ht
  intro f
  induction f with
  | zero =>
    intro listed e a w hsz hf hcl hhi ho hval hun ha hnow
    have hall : ∀ i, i < ops.size → listed.getD i false = true := fun i hi => by
      have h0 : (List.range ops.size).countP (fun i => !listed.getD i false) = 0 := by omega
      have := List.countP_eq_zero.1 h0 i (by simp [hi])
      simpa using this
    have hse : s = ops.size := by
      by_cases h : s < ops.size
      · have h1 := hall s h
        have h2 := hhi s (Nat.le_refl _) h
        rw [h1] at h2
        cases h2
      · omega
    obtain ⟨e2, hk, g1, g2⟩ := needs_out (e' := e) _ _ (hfin w.heap ho) (fun t ht => by
      obtain ⟨j, hj, x, ts, he⟩ := hm2 t (.inr ht)
      exact (hval j hj (hall j (by omega)) _ _ _ he).2 ht)
    refine tail_run hcov hlt 0 s listed tl e2 a w (Nat.le_refl _) hsm (by omega) hsz (fun i hi => ⟨fun _ => by omega, fun _ => hall i hi⟩) htl hwt (fun t => ?_) hnow hk
    rw [ha t]
    by_cases ht : t ∈ hd.map (·.1)
    · exact (g1 t ht).symm
    · rw [g2 t ht]
      by_cases hp : t ∈ pre.map (·.1)
      · obtain ⟨j, hj, x, ts, he⟩ := hm2 t (.inl hp)
        exact (hval j hj (hall j (by omega)) _ _ _ he).1 hp
      · rw [hold t hp]
        refine hun t fun i hi _ => ?_
        obtain ⟨d, x, ts, he, hmm⟩ := hm1 i hi
        rw [wrote_ent he]
        cases hb : Nat.beq d t with
        | false => rfl
        | true =>
          have := Nat.eq_of_beq_eq_true hb
          subst this
          rcases hmm with h | ⟨ds, h⟩
          · exact absurd (List.mem_map.2 ⟨_, h, rfl⟩) hp
          · exact absurd (List.mem_map.2 ⟨_, h, rfl⟩) ht
  | succ f ih =>
    intro listed e a w hsz hf hcl hhi ho hval hun ha hnow
    have hn : n ≤ a.tmps.size := by rw [hnow.size]; exact hnow.big
    by_cases hall : ∀ i, i < s → listed.getD i false = true
    · obtain ⟨e2, hk, g1, g2⟩ := needs_out (e' := e) _ _ (hfin w.heap ho) (fun t ht => by
        obtain ⟨j, hj, x, ts, he⟩ := hm2 t (.inr ht)
        exact (hval j hj (hall j hj) _ _ _ he).2 ht)
      refine tail_run hcov hlt (f + 1) s listed tl e2 a w (Nat.le_refl _) hsm ?_ hsz (fun i hi => ⟨fun h => ?_, fun h => hall i h⟩) htl hwt (fun t => ?_) hnow hk
      · have := countP_ge (p := fun i => !listed.getD i false) (s := s) ops.size fun i h1 h2 => by rw [hhi i h1 h2]; rfl
        omega
      · by_cases h2 : i < s
        · exact h2
        · rw [hhi i (by omega) hi] at h; cases h
      · rw [ha t]
        by_cases ht : t ∈ hd.map (·.1)
        · exact (g1 t ht).symm
        · rw [g2 t ht]
          by_cases hp : t ∈ pre.map (·.1)
          · obtain ⟨j, hj, x, ts, he⟩ := hm2 t (.inl hp)
            exact (hval j hj (hall j hj) _ _ _ he).1 hp
          · rw [hold t hp]
            refine hun t fun i hi _ => ?_
            obtain ⟨d, x, ts, he, hmm⟩ := hm1 i hi
            rw [wrote_ent he]
            cases hb : Nat.beq d t with
            | false => rfl
            | true =>
              have := Nat.eq_of_beq_eq_true hb
              subst this
              rcases hmm with h | ⟨ds, h⟩
              · exact absurd (List.mem_map.2 ⟨_, h, rfl⟩) hp
              · exact absurd (List.mem_map.2 ⟨_, h, rfl⟩) ht
    · have hex : ∃ i, i < s ∧ listed.getD i false = false := by
        have := Classical.not_forall.1 hall
        obtain ⟨i, hi⟩ := this
        obtain ⟨h1, h2⟩ := Classical.not_imp.1 hi
        exact ⟨i, h1, by simpa using h2⟩
      have hne : Region.ready .any ops listed ≠ [] := by
        have hleast : ∀ m i, i ≤ m → i < s → listed.getD i false = false → ∃ k, k ∈ Region.ready .any ops listed := by
          intro m
          induction m with
          | zero =>
            intro i h1 h2 h3
            have : i = 0 := by omega
            subst this
            exact ⟨0, (ready_iff hsz).2 ⟨by omega, h3, fun j hj => by have := hlt 0 (by omega) j hj; omega⟩⟩
          | succ m ihm =>
            intro i h1 h2 h3
            by_cases hd : ∀ j ∈ aft ops i, listed.getD j false = true
            · exact ⟨i, (ready_iff hsz).2 ⟨by omega, h3, hd⟩⟩
            · obtain ⟨j, hj⟩ := Classical.not_forall.1 hd
              obtain ⟨hj1, hj2⟩ := Classical.not_imp.1 hj
              have := hlt i (by omega) j hj1
              exact ihm j (by omega) (by omega) (by simpa using hj2)
        obtain ⟨i, h1, h2⟩ := hex
        obtain ⟨k, hk⟩ := hleast i i (Nat.le_refl _) h1 h2
        intro h
        rw [h] at hk
        cases hk
      refine wpAny_all rfl hne fun i hi => ?_
      obtain ⟨hi1, hi2, hi3⟩ := (ready_iff hsz).1 hi
      have his : i < s := by
        by_cases h : i < s
        · exact h
        · exfalso
          obtain ⟨q, hq1, hq2⟩ := hex
          have hc := hcov i (by omega) hi1
          unfold cov at hc
          rw [List.all_eq_true] at hc
          have h3 := (mem_iff q _).1 (hc q (by simp; omega))
          have h4 := clo_sub (ops := ops) (L := fun j => j < ops.size ∧ listed.getD j false = true) (fun k hk j hj => ⟨by have := hlt k hk.1 j hj; omega, hcl k hk.1 hk.2 j hj⟩) i (aft ops i) (fun j hj => ⟨by have := hlt i hi1 j hj; omega, hi3 j hj⟩) q h3
          rw [hq2] at h4
          cases h4.2
      obtain ⟨d, x, ts, he, hmm⟩ := hm1 i his
      obtain ⟨o, hno, hg, hdst, hx, htm⟩ := ent_out he
      have hok1 := ok1 i his
      rw [he] at hok1
      simp only [Bool.and_eq_true, List.all_eq_true, List.mem_range] at hok1
      obtain ⟨⟨hdn, hdep⟩, huni⟩ := hok1
      have hcs : compS P n ops.toList o = some (.o d x) := by
        unfold compS
        simp only [hx, hg, hdst]
        rw [if_pos hdn]
      -- what an operand holds
      have deps : ∀ t ∈ ts, t ∉ hd.map (·.1) → e.get t = e1.get t := fun t ht hnh => by
        by_cases hw : ∃ j, j < s ∧ wrote ops j t = true
        · obtain ⟨j, hj, hjw⟩ := hw
          have hja : j ∈ aft ops i := by
            have := hdep t ht j hj
            rw [hjw] at this
            exact (mem_iff j _).1 (by simpa using this)
          obtain ⟨d', x', ts', he', hmm'⟩ := hm1 j hj
          rw [wrote_ent he'] at hjw
          have := Nat.eq_of_beq_eq_true hjw
          subst this
          refine (hval j hj (hi3 j hja) _ _ _ he').1 ?_
          rcases hmm' with h | ⟨ds, h⟩
          · exact List.mem_map.2 ⟨_, h, rfl⟩
          · exact absurd (List.mem_map.2 ⟨_, h, rfl⟩) hnh
        · have hnw : ∀ j, j < s → wrote ops j t = false := fun j hj => by
            cases hq : wrote ops j t with
            | false => rfl
            | true => exact absurd ⟨j, hj, hq⟩ hw
          rw [hun t fun j hj _ => hnw j hj]
          refine (hold t fun hp => ?_).symm
          obtain ⟨j, hj, x', ts', he'⟩ := hm2 t (.inl hp)
          have := hnw j hj
          rw [wrote_ent he', Nat.beq_refl] at this
          cases this
      have hdo : ∀ j, j < s → j ≠ i → ∀ d' x' ts', ent P ops j = some (d', x', ts') → d' ≠ d := fun j hj hji d' x' ts' he' hdd => by
        have := huni j hj
        rw [wrote_ent he', hdd, Nat.beq_refl] at this
        simp at this
        exact hji this.symm
      -- behind it
      have go : ∀ (v : Value) (w' : World), Rest w w' → Keep h0.size w.heap w'.heap → (d ∈ pre.map (·.1) → v = e1.get d) → (d ∈ hd.map (·.1) → Q d v w'.heap) → ∀ e2, (∀ t, e2.get t = if t = d then v else e.get t) → Agree e2 (a.put o.dst v) →
          wpAny P .any ops (Post a0 w0 n wr Kn Kx) f (listed.setIfInBounds i true) (a.put o.dst v) w' := by
        intro v w' hr hon hv1 hv2 e2 he2 ha2
        have hgd : ∀ j, (listed.setIfInBounds i true).getD j false = if j = i then true else listed.getD j false := fun j => getD_set (by omega)
        refine ih _ e2 _ w' (by simpa using hsz) ?_ ?_ ?_ (ho.trans hon) ?_ ?_ ha2 ?_
        · have := countP_lt (p := fun j => !listed.getD j false) (q := fun j => !(listed.setIfInBounds i true).getD j false) (List.range ops.size) (fun j _ hj => by
            simp only [hgd] at hj
            by_cases hji : j = i
            · rw [if_pos hji] at hj; cases hj
            · rwa [if_neg hji] at hj) ⟨i, by simp [hi1], by simp [hi2], by simp only [hgd, if_pos]; rfl⟩
          omega
        · intro k hk hkl j hj
          rw [hgd] at hkl ⊢
          by_cases hji : j = i
          · rw [if_pos hji]
          · rw [if_neg hji]
            by_cases hki : k = i
            · subst hki; exact hi3 j hj
            · rw [if_neg hki] at hkl; exact hcl k hk hkl j hj
        · intro k h1 h2
          rw [hgd, if_neg (by omega)]
          exact hhi k h1 h2
        · intro j hj hjl d' x' ts' he'
          rw [hgd] at hjl
          by_cases hji : j = i
          · subst hji
            rw [he] at he'
            injection he' with he'
            injection he' with h1 h2
            subst h1
            rw [he2, if_pos rfl]
            exact ⟨hv1, hv2⟩
          · rw [if_neg hji] at hjl
            have hdd := hdo j hj hji d' x' ts' he'
            rw [he2, if_neg hdd]
            have := hval j hj hjl d' x' ts' he'
            exact ⟨this.1, fun h => hQ _ _ _ _ hon.sims (this.2 h)⟩
        · intro t ht
          have h1 := ht i his (by rw [hgd, if_pos rfl])
          rw [wrote_ent he] at h1
          rw [he2, if_neg (fun h => by rw [h, Nat.beq_refl] at h1; cases h1)]
          refine hun t fun j hj hjl => ht j hj ?_
          rw [hgd]
          by_cases hji : j = i
          · rw [if_pos hji]
          · rw [if_neg hji]; exact hjl
        · refine hnow.put (fun t ht => ?_) hr v
          rw [hdst] at ht
          injection ht with ht
          subst ht
          rcases hmm with h | ⟨ds, h⟩
          · exact hwp _ (List.mem_map.2 ⟨_, h, rfl⟩)
          · exact hwh _ (List.mem_map.2 ⟨_, h, rfl⟩)
      have putget : ∀ v t, (e.put d v).get t = if t = d then v else e.get t := fun v t => by
        simp only [Env.get]
        by_cases h : t = d
        · subst h; simp
        · have hb : Nat.beq d t = false := by
            cases hb : Nat.beq d t with
            | false => rfl
            | true => exact absurd (Nat.eq_of_beq_eq_true hb).symm h
          rw [hb, cond_false, if_neg h]
      have agput : ∀ v, Agree (e.put d v) (a.put o.dst v) := fun v => by
        rw [hdst]
        exact ha.put (Nat.lt_of_lt_of_le (Nat.le_of_ble_eq_true hdn) hn) v
      rcases hmm with hp | ⟨ds, hp⟩
      · have h3 := ok3 _ hp
        simp only [Bool.and_eq_true] at h3
        rw [htm] at h3
        simp only [List.all_eq_true] at h3
        have hnh : d ∉ hd.map (·.1) := fun h => by
          have := h3.1
          rw [(mem_iff _ _).2 h] at this
          cases this
        refine one_step (K := fun e2 h2 => e2 = e.put d (e1.get d) ∧ h2 = w.heap) hno hcs ha hn ?_ fun v w' e2 hr ha2 ⟨hv1, hv2⟩ => ?_
        · simp only [dL]
          refine hpre d x hp e w.heap _ ho.only (fun ts' hts t ht => ?_) ⟨rfl, rfl⟩
          rw [htm] at hts
          injection hts with hts
          subst hts
          exact deps t ht fun h => by
            have := h3.2 t ht
            rw [(mem_iff _ _).2 h] at this
            cases this
        · subst hv1
          have hvv : v = e1.get d := by
            have := ha2 d
            rw [putget, if_pos rfl, hdst] at this
            rw [← this]
            simp only [Act.put, Array.getD_eq_getD_getElem?]
            rw [Array.getElem?_setIfInBounds, if_pos rfl, if_pos (Nat.lt_of_lt_of_le (Nat.le_of_ble_eq_true hdn) hn)]
            rfl
          refine go v w' hr (by rw [hv2]; exact Keep.refl _ _) (fun _ => hvv) (fun h => absurd h hnh) _ (putget v) (agput v)
      · have h4 := ok4 _ hp
        rw [htm] at h4
        simp only [Bool.and_eq_true, List.all_eq_true] at h4
        have hdh : d ∈ hd.map (·.1) := List.mem_map.2 ⟨_, hp, rfl⟩
        have hnp : d ∉ pre.map (·.1) := fun h => by
          obtain ⟨p, hp1, hp2⟩ := List.mem_map.1 h
          have := ok3 p hp1
          rw [hp2, (mem_iff _ _).2 hdh] at this
          cases this.1
        have hneed := oblH_out hd hobl d ds x hp w.heap ho
        obtain ⟨e2, hv, g1, g2⟩ := needs_out (e' := e) ds e1 hneed (fun t ht => by
          have hb := h4.2 t ht
          have htts := (mem_iff _ _).1 hb.1
          have hthd := (mem_iff _ _).1 hb.2
          obtain ⟨j, hj, x', ts', he'⟩ := hm2 t (.inr hthd)
          have hja : j ∈ aft ops i := by
            have := hdep t htts j hj
            rw [wrote_ent he', Nat.beq_refl] at this
            exact (mem_iff j _).1 (by simpa using this)
          exact (hval j hj (hi3 j hja) _ _ _ he').2 hthd)
        have hv2 : vO P e w.heap (fun v h'' => Keep h0.size w.heap h'' ∧ Q d v h'') x := by
          refine vO_on htm (fun t ht => ?_) hv
          by_cases hds : t ∈ ds
          · exact g1 t hds
          · rw [g2 t hds]
            refine (deps t ht fun h => hds ?_).symm
            have := h4.1 t ht
            rw [(mem_iff _ _).2 h] at this
            exact (mem_iff _ _).1 (by simpa using this)
        refine one_step (K := fun e3 h3 => ∃ v, e3 = e.put d v ∧ Keep h0.size w.heap h3 ∧ Q d v h3) hno hcs ha hn ?_ fun v w' e3 hr ha3 ⟨v', hv1, hv2, hv3⟩ => ?_
        · simp only [dL]
          exact vO_mono hv2 fun v h' ⟨h1, h2⟩ => ⟨v, rfl, h1, h2⟩
        · subst hv1
          have hvv : v = v' := by
            have := ha3 d
            rw [putget, if_pos rfl, hdst] at this
            rw [← this]
            simp only [Act.put, Array.getD_eq_getD_getElem?]
            rw [Array.getElem?_setIfInBounds, if_pos rfl, if_pos (Nat.lt_of_lt_of_le (Nat.le_of_ble_eq_true hdn) hn)]
            rfl
          subst hvv
          exact go v w' hr hv2 (fun h => absurd h hnp) (fun _ => hv3) _ (putget v) (agput v)


/-! ### First what leaves the world as it is, whatever is done besides -/
theorem oneM_out {n : Nat} {ops : List Oper} {o : Oper} {s : S} {M : List Nat} {r : List S} {e : Env} {a : Act} {w : World} {K : Env → H → Prop} (hs : compS P n ops o = some s) (ha : Agree e a) (hn : n ≤ a.tmps.size) (hd : dM P M (s :: r) e w.heap K) :
    ∃ x, compOp P o.op o.type = some x ∧
    ((Region.wanted o (yielded ops.toArray a.tmps) = true ∧ vM P M e w.heap (fun v h' => ∃ e1, Agree e1 (a.put o.dst v) ∧ dM P M r e1 h' K) x) ∨
     (Region.wanted o (yielded ops.toArray a.tmps) = false ∧ ∃ e1, Agree e1 (a.put o.dst undef) ∧ dM P M r e1 w.heap K)) := by
  obtain ⟨x, hx, hcase⟩ := compS_out hs
  refine ⟨x, hx, ?_⟩
  have mono : ∀ {k k' : Value → H → Prop}, (∀ v h', k v h' → k' v h') → vM P M e w.heap k x → vM P M e w.heap k' x := fun hk hv => vM_mono hv hk
  rcases hcase with ⟨hg, hdst, rfl⟩ | ⟨d, hg, hdst, hlt, rfl⟩ | ⟨j, want, oj, q, hg, hj, hjd, hdst, rfl⟩ | ⟨j, want, oj, q, d, hg, hj, hjd, hdst, hlt, rfl⟩
  · refine .inl ⟨by simp [Region.wanted, hg], ?_⟩
    simp only [dM] at hd
    rw [hdst]
    exact mono (fun _ h' hk => ⟨e, ha, hk⟩) hd
  · refine .inl ⟨by simp [Region.wanted, hg], ?_⟩
    simp only [dM] at hd
    rw [hdst]
    exact mono (fun v h' hk => ⟨_, ha.put (Nat.lt_of_lt_of_le hlt hn) v, hk⟩) hd
  · have hw := wanted_guard (o := o) ha hg hj hjd
    simp only [dM] at hd
    rw [hdst]
    rcases guarded_out hd with ⟨hv, hd⟩ | ⟨hv, hd⟩
    · exact .inl ⟨hw.2 hv, mono (fun _ h' hk => ⟨e, ha, hk⟩) hd⟩
    · exact .inr ⟨by simpa using fun h => hv (hw.1 h), e, ha, hd⟩
  · have hw := wanted_guard (o := o) ha hg hj hjd
    simp only [dM] at hd
    rw [hdst]
    rcases guarded_out hd with ⟨hv, hd⟩ | ⟨hv, hd⟩
    · exact .inl ⟨hw.2 hv, mono (fun v h' hk => ⟨_, ha.put (Nat.lt_of_lt_of_le hlt hn) v, hk⟩) hd⟩
    · exact .inr ⟨by simpa using fun h => hv (hw.1 h), _, ha.put (Nat.lt_of_lt_of_le hlt hn) _, hd⟩

theorem altH_out {M : List Nat} {h0 : H} {need : Bool} {s : S} {p q : PH} {e : Env} {h : H} {K : Env → H → Prop} (hd : dH P M h0 (.alt need s p q) e h K) : (dL P [s] e h fun e h' => bif need then Only M h0 h' ∧ dH P M h0 p e h' K else dH P M h0 p e h' K) ∧ dH P M h0 q e h K := by
  cases q <;> first | exact ⟨hd, trivial⟩ | exact hd
theorem altsH_out {f : Nat → Option (Bool × S × PH)} {M : List Nat} {h0 : H} : ∀ (l : List Nat) (p : PH), altsH f l = some p → ∀ (e : Env) (h : H) (K : Env → H → Prop), dH P M h0 p e h K →
    ∀ i ∈ l, ∃ b s q, f i = some (b, s, q) ∧ (dL P [s] e h fun e h' => bif b then Only M h0 h' ∧ dH P M h0 q e h' K else dH P M h0 q e h' K) ∧ (∀ t ∈ s.wr, t ∈ p.wr) ∧ (∀ t ∈ q.wr, t ∈ p.wr) := by
  intro l
  induction l with
  | nil => intro p _ e h K _ i hi; cases hi
  | cons j r ih =>
    intro p hp e h K hd i hi
    simp only [altsH] at hp
    split at hp
    · rename_i b s q rp hf hr
      injection hp with hp
      subst hp
      have hd := altH_out hd
      rcases List.mem_cons.1 hi with rfl | hi
      · exact ⟨b, s, q, hf, hd.1, by simp [PH.wr]; intro t ht; simp [ht], by simp [PH.wr]; intro t ht; simp [ht]⟩
      · obtain ⟨b', s', q', h1, h2, h3, h4⟩ := ih rp hr e h K hd.2 i hi
        exact ⟨b', s', q', h1, h2, fun t ht => by simp [PH.wr, h3 t ht], fun t ht => by simp [PH.wr, h4 t ht]⟩
    · cases hp

/-- Whatever comes up next; S of those listed and of the world behind it. -/
def wpC (P : Program) (ops : Array Oper) (Q : Exit → Act → World → Prop) (S : Array Bool → World → Prop) : Nat → Array Bool → Act → World → Prop
  | 0, listed, a, w => Region.ready .any ops listed = [] ∧ Q .normal a w
  | f + 1, listed, a, w => (Region.ready .any ops listed = [] → Q .normal a w) ∧
    ∀ i ∈ Region.ready .any ops listed, wpOp P ops Q i (fun a' w' => S (listed.setIfInBounds i true) w' ∧ wpC P ops Q S f (listed.setIfInBounds i true) a' w') a w
theorem wpC_any {ops : Array Oper} {Q : Exit → Act → World → Prop} {S : Array Bool → World → Prop} : ∀ (f : Nat) (listed : Array Bool) (a : Act) (w : World), wpC P ops Q S f listed a w → wpAny P .any ops Q f listed a w
  | 0, _, _, _, h => h
  | f + 1, _, _, _, h => ⟨h.1, fun i hi => wpOp_mono (fun a' w' h' => wpC_any f _ a' w' h'.2) (h.2 i hi)⟩
def ClosedL (ops : Array Oper) (listed : Array Bool) : Prop := listed.size = ops.size ∧ ∀ k, listed.getD k false = true → ∀ j ∈ aft ops k, listed.getD j false = true
theorem ClosedL.set {ops : Array Oper} {listed : Array Bool} {i : Nat} (h : ClosedL ops listed) (hi : i ∈ Region.ready .any ops listed) : ClosedL ops (listed.setIfInBounds i true) := by
  obtain ⟨h1, h2, h3⟩ := (ready_iff h.1).1 hi
  refine ⟨by simpa using h.1, fun k hk j hj => ?_⟩
  rw [getD_set (by rw [h.1]; exact h1)] at hk ⊢
  by_cases hji : j = i
  · rw [if_pos hji]
  · rw [if_neg hji]
    by_cases hki : k = i
    · subst hki; exact h3 j hj
    · rw [if_neg hki] at hk; exact h.2 k hk j hj
/-- One that may be taken first, as long as it yields the same in all worlds in which it may come up. -/
theorem wpC_first {ops : Array Oper} {Q : Exit → Act → World → Prop} {S : Array Bool → World → Prop} {S0 : World → Prop} {i : Nat} {oi : Oper} {v : Value} (hi : ops[i]? = some oi) (hsel : Region.noSelect ops = true) (hQ : ∀ c a w, Q (.panic c) (a.put oi.dst v) w → Q (.panic c) a w)
    (hS : ∀ (L : Array Bool) w, ClosedL ops L → L.getD i false = false → S (L.setIfInBounds i true) w → S0 w ∧ S L w) :
    ∀ (f : Nat) (listed : Array Bool) (a : Act) (w : World), ClosedL ops listed → Region.free .any ops listed i = true → i ∈ Region.ready .any ops listed → YieldsIf P ops S0 oi v a → S0 w → S (listed.setIfInBounds i true) w →
      wpC P ops Q S f (listed.setIfInBounds i true) (a.put oi.dst v) w → wpC P ops Q S (f + 1) listed a w := by
  have hns := Region.noSelect_spec hsel
  -- the same with the freedom spelled out, so that it goes on as others are listed
  have main : ∀ (f : Nat) (listed : Array Bool) (a : Act) (w : World), ClosedL ops listed → (∀ j oj, ops[j]? = some oj → j ≠ i → listed.getD j true = false → (∀ e ∈ oj.after, Region.binds .any e = true → e.on ≠ i) → oi.apart ops oj = true) →
      i ∈ Region.ready .any ops listed → YieldsIf P ops S0 oi v a → S0 w → S (listed.setIfInBounds i true) w → wpC P ops Q S f (listed.setIfInBounds i true) (a.put oi.dst v) w → wpC P ops Q S (f + 1) listed a w := by
    intro f
    induction f with
    | zero =>
      intro listed a w hcl hfree hr hy h0 hs H
      refine ⟨fun h => (by rw [h] at hr; cases hr), fun j hj => ?_⟩
      by_cases hji : j = i
      · subst hji; exact hy.wpOp hi h0 ⟨hs, H⟩
      · have := ready_mono hj hji
        rw [H.1] at this
        cases this
    | succ f ih =>
      intro listed a w hcl hfree hr hy h0 hs H
      refine ⟨fun h => (by rw [h] at hr; cases hr), fun j hj => ?_⟩
      by_cases hji : j = i
      · subst hji; exact hy.wpOp hi h0 ⟨hs, H⟩
      have h1 := H.2 j (ready_mono hj hji)
      obtain ⟨hjl, hjn, hja⟩ := (ready_iff hcl.1).1 hj
      obtain ⟨hil, hin, _⟩ := (ready_iff hcl.1).1 hr
      have hoj : ops[j]? = some ops[j] := Array.getElem?_eq_getElem hjl
      have hjun : listed.getD j true = false := by
        rw [Array.getD_eq_getD_getElem?, Array.getElem?_eq_getElem (by rw [hcl.1]; exact hjl)] at hjn ⊢
        exact hjn
      have hnot : ∀ e ∈ (ops[j]).after, Region.binds .any e = true → e.on ≠ i := fun e he hb heq => by
        have : i ∈ aft ops j := by
          unfold aft
          rw [nth_arr, hoj]
          simp only [List.mem_map, List.mem_filter, Array.mem_toList_iff]
          exact ⟨e, ⟨he, hb⟩, heq⟩
        rw [hja i this] at hin
        cases hin
      have h2 := wpOp_putIf hoj (hfree j _ hoj hji hjun hnot) (fun cs b => hns i oi cs b hi) (fun cs b => hns j _ cs b hoj) hQ hy h1
      have hcl' := hcl.set hj
      have hin' : (listed.setIfInBounds j true).getD i false = false := by rw [getD_set (by rw [hcl.1]; exact hjl), if_neg (fun h => hji h.symm)]; exact hin
      have hfree' : ∀ k ok, ops[k]? = some ok → k ≠ i → (listed.setIfInBounds j true).getD k true = false → (∀ e ∈ ok.after, Region.binds .any e = true → e.on ≠ i) → oi.apart ops ok = true := fun k ok hk hki hun hno => by
        refine hfree k ok hk hki ?_ hno
        by_cases hjk : j = k
        · subst hjk; exact hjun
        · rw [getD_set_ne true hjk] at hun; exact hun
      refine wpOp_mono (fun a' w' ⟨hy', hs', hrest⟩ => ?_) h2
      rw [Array.setIfInBounds_comm _ _ (fun h => hji h.symm)] at hrest hs'
      have hs0 := hS _ w' hcl' hin' hs'
      exact ⟨hs0.2, ih _ a' w' hcl' hfree' (ready_mono hr (Ne.symm hji)) hy' hs0.1 hs' hrest⟩
  exact fun f listed a w hcl hf hr hy h0 hs H => main f listed a w hcl (Region.free_spec hi hf) hr hy h0 hs H
theorem wpC_done {ops : Array Oper} {Q : Exit → Act → World → Prop} {S : Array Bool → World → Prop} {listed : Array Bool} {a : Act} {w : World} (hr : Region.ready .any ops listed = []) (h : Q .normal a w) : ∀ f, wpC P ops Q S f listed a w
  | 0 => ⟨hr, h⟩
  | _ + 1 => ⟨fun _ => h, by rw [hr]; simp⟩

/-- Nothing that is read first is touched, as long as it may still be read. -/
def heldS (P : Program) (ops : Array Oper) (lds M : List Nat) (h0 : H) (L : Array Bool) (w : World) : Prop := (∃ k, L.getD k false = true ∧ covL P ops lds k = true) ∨ Only M h0 w.heap
theorem covL_still {ops : Array Oper} {lds : List Nat} {i : Nat} (hs : stillAt P ops i = true) : covL P ops lds i = false := by unfold covL; rw [hs]; rfl
theorem heldS_down {ops : Array Oper} {lds M : List Nat} {h0 : H} {i : Nat} (hst : stillAt P ops i = true) {L : Array Bool} {w : World} (hL : ClosedL ops L) (hil : i < ops.size) (h : heldS P ops lds M h0 (L.setIfInBounds i true) w) : heldS P ops lds M h0 L w := by
  rcases h with ⟨k, h1, h2⟩ | h
  · rw [getD_set (by rw [hL.1]; exact hil)] at h1
    by_cases hki : k = i
    · subst hki; rw [covL_still hst] at h2; cases h2
    · rw [if_neg hki] at h1; exact .inl ⟨k, h1, h2⟩
  · exact .inr h
theorem heldS_only {ops : Array Oper} {lds M : List Nat} {h0 : H} {i : Nat} (hi : i ∈ lds) {L : Array Bool} {w : World} (hL : ClosedL ops L) (hn : L.getD i false = false) (h : heldS P ops lds M h0 L w) : Only M h0 w.heap := by
  rcases h with ⟨k, h1, h2⟩ | h
  · exfalso
    unfold covL at h2
    simp only [Bool.and_eq_true, List.all_eq_true] at h2
    have h3 := (mem_iff i _).1 (h2.2 i hi)
    have := clo_sub (ops := ops) (L := fun j => L.getD j false = true) (fun k hk j hj => hL.2 k hk j hj) ops.size (aft ops k) (fun j hj => hL.2 k h1 j hj) i h3
    rw [hn] at this
    cases this
  · exact h
theorem stillAt_of {n : Nat} {ops : Array Oper} {i : Nat} {o : Oper} {x : SO} (hno : nth ops.toList i = some o) (hx : compOp P o.op o.type = some x) : stillAt P ops i = x.still := by
  unfold stillAt; rw [hno]; simp only [hx]
theorem nth_lt {ops : Array Oper} {i : Nat} {o : Oper} (hno : nth ops.toList i = some o) : i < ops.size := by
  rw [nth_arr] at hno
  exact (Array.getElem?_eq_some_iff.1 hno).1

theorem planH_sound {n : Nat} {ops : Array Oper} (hsel : Region.noSelect ops = true) {lds : List Nat} {a0 : Act} {w0 : World} {wr : List Nat} {Kn : Env → H → Prop} {Kx : SX → Env → H → Prop} {M : List Nat} {h0 : H} :
    ∀ (f : Nat) (dn : Bool) (listed : Array Bool) (p : PH) (e : Env) (a : Act) (w : World), planH P n ops lds f dn listed = some p → Agree e a → Now a0 w0 n wr a w → (∀ t ∈ p.wr, t ∈ wr) → ClosedL ops listed → (dn = true → ∃ k, listed.getD k false = true ∧ covL P ops lds k = true) →
      heldS P ops lds M h0 listed w → dH P M h0 p e w.heap Kn → wpC P ops (Post a0 w0 n wr Kn Kx) (heldS P ops lds M h0) f listed a w := by
  have fin : ∀ (e : Env) (a : Act) (w : World), Agree e a → Now a0 w0 n wr a w → Kn e w.heap → Post a0 w0 n wr Kn Kx .normal a w := fun e a w ha hw hk =>
    ⟨hw.rest, hw.defers, by rw [hw.size]; exact hw.big, hw.keep, e, ha, hk⟩
  intro f
  induction f with
  | zero =>
    intro dn listed p e a w hp ha hnow hwr hcl hdn hS hd
    simp only [planH] at hp
    split at hp
    · rename_i hr
      injection hp with hp
      subst hp
      exact wpC_done hr (fin e a w ha hnow hd) 0
    · cases hp
  | succ f ih =>
    intro dn listed p e a w hp ha hnow hwr hcl hdn hS hd
    have hn : n ≤ a.tmps.size := by rw [hnow.size]; exact hnow.big
    simp only [planH] at hp
    split at hp
    · rename_i hr
      injection hp with hp
      subst hp
      exact wpC_done hr (fin e a w ha hnow hd) _
    · rename_i rs hne
      split at hp
      · rename_i i hfind
        obtain ⟨hmem, hpi⟩ := find_out hfind
        simp only [Bool.and_eq_true] at hpi
        obtain ⟨hfree, hpure⟩ := hpi
        split at hp
        · rename_i o hno
          split at hp
          · rename_i s q hs hq
            injection hp with hp
            subst hp
            simp only [dH] at hd
            have ho' : ops[i]? = some o := by rw [← nth_arr]; exact hno
            obtain ⟨x, hx, hc⟩ := one_out hs ha hn hd
            rw [show ops.toList.toArray = ops from by simp] at hc
            have hpx : x.pure = true := by
              unfold pureAt at hpure
              rw [hno] at hpure
              simp only [hx] at hpure
              exact hpure
            have hsx : x.still = true := pure_still hpx
            have hst : stillAt P ops i = true := by rw [stillAt_of (n := n) hno hx, hsx]
            have hil := nth_lt hno
            have up : heldS P ops lds M h0 (listed.setIfInBounds i true) w := by
              rcases hS with ⟨k, h1, h2⟩ | h
              · refine .inl ⟨k, ?_, h2⟩
                rw [getD_set (by rw [hcl.1]; exact hil)]
                split
                · rfl
                · exact h1
              · exact .inr h
            have hdn' : dn = true → ∃ k, (listed.setIfInBounds i true).getD k false = true ∧ covL P ops lds k = true := fun h => by
              obtain ⟨k, h1, h2⟩ := hdn h
              refine ⟨k, ?_, h2⟩
              rw [getD_set (by rw [hcl.1]; exact hil)]
              split
              · rfl
              · exact h1
            rcases hc with ⟨hw, hv⟩ | ⟨hw, e1, ha1, hk1⟩
            · obtain ⟨v, ⟨e1, ha1, hk1⟩, hall⟩ := pure_all hpx hv
              refine wpC_first (v := v) (Q := Post a0 w0 n wr Kn Kx) (S := heldS P ops lds M h0) (S0 := fun _ => True) ho' hsel (fun c a w hq => by obtain ⟨_, _, _, _, _, _, hf⟩ := hq; exact hf.elim) (fun L w hL hn h => ⟨trivial, heldS_down hst hL hil h⟩) f listed a w hcl hfree hmem (.inl ⟨hw, fun w2 _ => ?_⟩) trivial up ?_
              · obtain ⟨v', hr, rfl⟩ := exact_of hx hsx (hall w2.heap (fun v' _ => v' = v) rfl) rfl rfl ha
                exact hr
              · exact ih dn _ q e1 _ w hq ha1 (hnow.put (fun t ht => hwr t (by simp [PH.wr, dst_wr hs t ht])) (Rest.refl w) v) (fun t ht => hwr t (by simp [PH.wr, ht])) (hcl.set hmem) hdn' up hk1
            · refine wpC_first (v := undef) (Q := Post a0 w0 n wr Kn Kx) (S := heldS P ops lds M h0) (S0 := fun _ => True) ho' hsel (fun c a w hq => by obtain ⟨_, _, _, _, _, _, hf⟩ := hq; exact hf.elim) (fun L w hL hn h => ⟨trivial, heldS_down hst hL hil h⟩) f listed a w hcl hfree hmem (.inr ⟨hw, rfl⟩) trivial up ?_
              exact ih dn _ q e1 _ w hq ha1 (hnow.put (fun t ht => hwr t (by simp [PH.wr, dst_wr hs t ht])) (Rest.refl w) undef) (fun t ht => hwr t (by simp [PH.wr, ht])) (hcl.set hmem) hdn' up hk1
          · cases hp
        · cases hp
      · refine ⟨fun h => absurd h hne, fun i hi => ?_⟩
        obtain ⟨b, s, q, hf, hd1, hw1, hw2⟩ := altsH_out _ p hp e w.heap Kn hd i hi
        split at hf
        · rename_i o hno
          split at hf
          · rename_i s' q' hs hq
            injection hf with hf
            injection hf with hb hf
            injection hf with h1 h2
            subst h1 h2
            have hil := nth_lt hno
            refine one_step hno hs ha hn hd1 fun v w' e1 hr ha1 hk1 => ?_
            have hin : (listed.setIfInBounds i true).getD i false = true := by rw [getD_set (by rw [hcl.1]; exact hil), if_pos rfl]
            have hdn' : (dn || covL P ops lds i) = true → ∃ k, (listed.setIfInBounds i true).getD k false = true ∧ covL P ops lds k = true := fun h => by
              rcases Bool.or_eq_true_iff.1 h with h | h
              · obtain ⟨k, h1, h2⟩ := hdn h
                refine ⟨k, ?_, h2⟩
                rw [getD_set (by rw [hcl.1]; exact hil)]
                split
                · rfl
                · exact h1
              · exact ⟨i, hin, h⟩
            cases hdc : (dn || covL P ops lds i) with
            | true =>
              rw [hdc] at hb hq
              subst hb
              have hS' : heldS P ops lds M h0 (listed.setIfInBounds i true) w' := .inl (hdn' hdc)
              exact ⟨hS', ih _ _ q' e1 _ w' hq ha1 (hnow.put (fun t ht => hwr t (hw1 t (dst_wr hs t ht))) hr v) (fun t ht => hwr t (hw2 t ht)) (hcl.set hi) (fun _ => hdn' hdc) hS' hk1⟩
            | false =>
              rw [hdc] at hb hq
              subst hb
              have hS' : heldS P ops lds M h0 (listed.setIfInBounds i true) w' := .inr hk1.1
              exact ⟨hS', ih _ _ q' e1 _ w' hq ha1 (hnow.put (fun t ht => hwr t (hw1 t (dst_wr hs t ht))) hr v) (fun t ht => hwr t (hw2 t ht)) (hcl.set hi) (fun h => by cases h) hS' hk1.2⟩
          · cases hf
        · cases hf

theorem holdOf_sound {n : Nat} {ops : Array Oper} (hsel : Region.noSelect ops = true) {lds : List Nat} {a0 : Act} {w0 : World} {wr : List Nat} {Kn : Env → H → Prop} {Kx : SX → Env → H → Prop} {M : List Nat} :
    ∀ (f : Nat) (listed : Array Bool) (l : List S) (p : PH) (e : Env) (a : Act) (w : World), holdOf P n ops lds f listed = some (l, p) → Agree e a → Now a0 w0 n wr a w → (∀ s ∈ l, ∀ t ∈ s.wr, t ∈ wr) → (∀ t ∈ p.wr, t ∈ wr) → ClosedL ops listed →
      dM P M l e w.heap (fun e h' => dH P M w.heap p e h' Kn) → wpC P ops (Post a0 w0 n wr Kn Kx) (heldS P ops lds M w.heap) f listed a w := by
  intro f
  induction f with
  | zero =>
    intro listed l p e a w hp ha hnow hwl hwr hcl hd
    simp only [holdOf] at hp
    split at hp
    · rename_i p' hpl
      injection hp with hp
      injection hp with h1 h2
      subst h1 h2
      exact planH_sound hsel 0 false listed p' e a w hpl ha hnow hwr hcl (fun h => by cases h) (.inr (Only.refl _ _)) hd
    · cases hp
  | succ f ih =>
    intro listed l p e a w hp ha hnow hwl hwr hcl hd
    have hn : n ≤ a.tmps.size := by rw [hnow.size]; exact hnow.big
    simp only [holdOf] at hp
    split at hp
    · rename_i hr
      injection hp with hp
      injection hp with h1 h2
      subst h1 h2
      exact wpC_done hr ⟨hnow.rest, hnow.defers, by rw [hnow.size]; exact hnow.big, hnow.keep, e, ha, hd⟩ _
    · split at hp
      · rename_i i hfind
        obtain ⟨hmem, hpi⟩ := find_out hfind
        simp only [Bool.and_eq_true] at hpi
        obtain ⟨hfree, hst⟩ := hpi
        split at hp
        · rename_i o hno
          split at hp
          · rename_i s l' p' hs hq
            cases hpm : (pureAt P ops i || mem i lds) with
            | false => rw [hpm] at hp; cases hp
            | true =>
            rw [hpm, cond_true] at hp
            injection hp with hp
            injection hp with h1 h2
            subst h1 h2
            have ho' : ops[i]? = some o := by rw [← nth_arr]; exact hno
            have hil := nth_lt hno
            obtain ⟨x, hx, hc⟩ := oneM_out hs ha hn hd
            rw [show ops.toList.toArray = ops from by simp] at hc
            have hsx : x.still = true := by rw [← stillAt_of (n := n) hno hx]; exact hst
            have hu : heldS P ops lds M w.heap (listed.setIfInBounds i true) w := .inr (Only.refl _ _)
            rcases hc with ⟨hw, hv⟩ | ⟨hw, e1, ha1, hk1⟩
            · have go : ∀ v e1, Agree e1 (a.put o.dst v) → dM P M l' e1 w.heap (fun e h' => dH P M w.heap p' e h' Kn) → wpC P ops (Post a0 w0 n wr Kn Kx) (heldS P ops lds M w.heap) f (listed.setIfInBounds i true) (a.put o.dst v) w := fun v e1 ha1 hk1 =>
                ih _ l' p' e1 _ w hq ha1 (hnow.put (fun t ht => hwl s (by simp) t (dst_wr hs t ht)) (Rest.refl w) v) (fun s hs => hwl s (by simp [hs])) hwr (hcl.set hmem) hk1
              cases hpx : x.pure with
              | true =>
                obtain ⟨v, ⟨e1, ha1, hk1⟩, hall⟩ := stillM_all hsx hv
                have hv' := vM_vO hv
                obtain ⟨v2, ⟨e2, ha2, hk2⟩, hall2⟩ := pure_all hpx hv'
                refine wpC_first (v := v2) (Q := Post a0 w0 n wr Kn Kx) (S := heldS P ops lds M w.heap) (S0 := fun _ => True) ho' hsel (fun c a w hq => by obtain ⟨_, _, _, _, _, _, hf⟩ := hq; exact hf.elim) (fun L w hL hn h => ⟨trivial, heldS_down hst hL hil h⟩) f listed a w hcl hfree hmem (.inl ⟨hw, fun w2 _ => ?_⟩) trivial hu (go v2 e2 ha2 hk2)
                obtain ⟨v', hr, rfl⟩ := exact_of hx hsx (hall2 w2.heap (fun v' _ => v' = v2) rfl) rfl rfl ha
                exact hr
              | false =>
                have hl : i ∈ lds := by
                  have : pureAt P ops i = false := by unfold pureAt; rw [hno]; simp only [hx]; exact hpx
                  rw [this, Bool.false_or] at hpm
                  exact (mem_iff i lds).1 hpm
                obtain ⟨v, ⟨e1, ha1, hk1⟩, hall⟩ := stillM_all hsx hv
                refine wpC_first (v := v) (Q := Post a0 w0 n wr Kn Kx) (S := heldS P ops lds M w.heap) (S0 := fun w' => Only M w.heap w'.heap) ho' hsel (fun c a w hq => by obtain ⟨_, _, _, _, _, _, hf⟩ := hq; exact hf.elim) (fun L w' hL hn h => ⟨heldS_only hl hL hn (heldS_down hst hL hil h), heldS_down hst hL hil h⟩) f listed a w hcl hfree hmem (.inl ⟨hw, fun w2 ho2 => ?_⟩) (Only.refl _ _) hu (go v e1 ha1 hk1)
                obtain ⟨v', hr, rfl⟩ := exact_of hx hsx (hall w2.heap (fun v' _ => v' = v) ho2 rfl) rfl rfl ha
                exact hr
            · refine wpC_first (v := undef) (Q := Post a0 w0 n wr Kn Kx) (S := heldS P ops lds M w.heap) (S0 := fun _ => True) ho' hsel (fun c a w hq => by obtain ⟨_, _, _, _, _, _, hf⟩ := hq; exact hf.elim) (fun L w hL hn h => ⟨trivial, heldS_down hst hL hil h⟩) f listed a w hcl hfree hmem (.inr ⟨hw, rfl⟩) trivial hu ?_
              exact ih _ l' p' e1 _ w hq ha1 (hnow.put (fun t ht => hwl s (by simp) t (dst_wr hs t ht)) (Rest.refl w) undef) (fun s hs => hwl s (by simp [hs])) hwr (hcl.set hmem) hk1
          · cases hp
        · cases hp
      · split at hp
        · rename_i p' hpl
          injection hp with hp
          injection hp with h1 h2
          subst h1 h2
          exact planH_sound hsel _ false listed p' e a w hpl ha hnow hwr hcl (fun h => by cases h) (.inr (Only.refl _ _)) hd
        · cases hp

theorem compD_sound {n : Nat} {id : Nat} {ops : Array Oper} {s : SC} {e : Env} {a : Act} {w : World} {Kn : Env → H → Prop} {Kx : SX → Env → H → Prop} (hc : compD P n ops = some s) (ha : Agree e a) (hn : n ≤ a.tmps.size)
    (hd : dC P s e w.heap Kn Kx) : (Code.region id ops true).wp P (Post a w n s.wr Kn Kx) a w := by
  unfold compD at hc
  split at hc
  rotate_left
  · cases hc
  rename_i hm
  have now : ∀ wr, Now a w n wr a { w with drawn := w.drawn + 1 } := fun wr => ⟨⟨rfl, rfl, rfl⟩, rfl, rfl, hn, fun _ _ => rfl⟩
  split at hc
  · rename_i hB
    split at hc
    · rename_i l hl
      injection hc with hc
      subst hc
      have hB' : Region.lexTailB .any ops.toList.toArray (stillHead P ops.toList) = true := by simpa using hB
      have := wp_region_still_tail (id := id) (a := a) (w := w) (l := ops.toList) (Q := Post a w n (SC.ops l).wr Kn Kx) (stillHead P ops.toList) hm hB' ?_
      · rw [show ops.toList.toArray = ops from by simp] at this
        exact this
      · have hw : ∀ s ∈ l, ∀ t ∈ s.wr, t ∈ (SC.ops l).wr := fun s hs t ht => by simp only [SC.wr, List.mem_flatMap]; exact ⟨s, hs, ht⟩
        refine still_out (K := Kn) (stillHead P ops.toList) ops.toList l e a (Nat.le_refl _) hl ha (now _) hw hd ?_
        rintro e1 a1 ha1 hnow ⟨sl2, hc2, hw2, hd2⟩
        exact dL_now ops.toList _ sl2 e1 a1 _ hc2 ha1 hnow hw2 hd2
    · cases hc
  · split at hc
    · split at hc
      · rename_i hsel
        split at hc
        · rename_i p hp
          injection hc with hc
          subst hc
          exact wp_region_any hm (planOf_sound hsel _ _ p e a _ hp ha (now _) (fun t ht => ht) hd)
        · cases hc
      · cases hc
    · split at hc
      · split at hc
        · rename_i hsel
          split at hc
          · rename_i l p hp
            injection hc with hc
            subst hc
            simp only [dC] at hd
            unfold HeldH at hd
            obtain ⟨M, hd⟩ := hd
            simp only [Bool.and_eq_true] at hsel
            refine wp_region_any hm (wpC_any _ _ _ _ (holdOf_sound hsel.1 ops.size _ l p e a { w with drawn := w.drawn + 1 } hp ha (now _) (fun s hs t ht => by simp only [SC.wr, List.mem_append, List.mem_flatMap]; exact .inl ⟨s, hs, ht⟩) (fun t ht => by simp only [SC.wr, List.mem_append]; exact .inr ht) ⟨by simp, fun k hk => ?_⟩ hd))
            rw [Array.getD_eq_getD_getElem?, Array.getElem?_replicate] at hk
            split at hk <;> cases hk
          · cases hc
        · cases hc
      unfold freeOf at hc
      split at hc
      · rename_i pre hdl tl hcls htl
        cases hb : (okF P n ops (tailAt ops ops.size) pre hdl && Nat.ble (tailAt ops ops.size) ops.size) with
        | false => rw [hb] at hc; cases hc
        | true =>
        rw [hb, cond_true] at hc
        injection hc with hc
        subst hc
        simp only [Bool.and_eq_true] at hb
        have hord : ordB pre = true := by
          have := hb.1
          unfold okF at this
          simp only [Bool.and_eq_true] at this
          exact this.2
        simp only [dC] at hd
        obtain ⟨e1, hF, hold, hpre⟩ := pre_run pre e w.heap _ hord hd
        unfold FreeH at hF
        obtain ⟨Q, hQ, hobl, hfin⟩ := hF
        refine wp_region_any hm ?_
        have hz : ∀ k, (Array.replicate ops.size false).getD k false = false := fun k => by
          rw [Array.getD_eq_getD_getElem?, Array.getElem?_replicate]
          split <;> rfl
        refine free_run (e0 := e) (e1 := e1) (h0 := w.heap) (Q := Q) rfl hcls htl hb.1 ?_ ?_ ?_ hold hpre hQ hobl hfin ops.size _ e a _ (by simp) ?_ ?_ ?_ (Keep.refl _ _) ?_ ?_ ha (now _)
        · intro t ht; simp only [SC.wr, List.mem_append]; exact .inl ht
        · intro t ht; simp only [SC.wr, List.mem_append]; exact .inr (.inl ht)
        · intro s hs t ht; simp only [SC.wr, List.mem_append, List.mem_flatMap]; exact .inr (.inr ⟨s, hs, ht⟩)
        · exact Nat.le_trans List.countP_le_length (by simp)
        · intro k _ hk; rw [hz] at hk; cases hk
        · intro k _ _; exact hz k
        · intro i _ hk; rw [hz] at hk; cases hk
        · intro t _; rfl
      · cases hc
end
end Go.Proofs.YtiabgojnljfmhaaGreat.Ov
