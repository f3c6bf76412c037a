/-
  WHAT IS SHOWN OF THE SMALL TEXT HOLDS OF THE CALL: 'Fn.of'. No condition: every statement is for every program.
-/
import Derived.Test.YtiabgojnljfmhaaGreatK
import Derived.Defers
namespace Go.Proofs.YtiabgojnljfmhaaGreat.Ov
section
variable {P : Program}

theorem least {p : Nat → Prop} (h : ∃ n, p n) : ∃ n, p n ∧ ∀ m, p m → n ≤ m := by
  obtain ⟨n, hn⟩ := h
  induction n using Nat.strongRecOn with
  | _ n ih =>
    by_cases hm : ∃ m, m < n ∧ p m
    · obtain ⟨m, hlt, hp⟩ := hm
      exact ih m hlt hp
    · exact ⟨n, hn, fun m hp => Nat.le_of_not_lt fun hlt => hm ⟨m, hlt, hp⟩⟩

theorem drop_get (mods : List Nat) (g : Nat → Value) (t : Nat) : ∀ e : Env, (t ∉ mods → e.get t = g t) → (e.drop mods g).get t = g t := by
  intro e
  induction e with
  | base g0 =>
    intro h
    simp only [Env.drop, Env.get]
    cases hm : mem t mods with
    | true => rfl
    | false => exact h fun hm' => by rw [(mem_iff t mods).2 hm'] at hm; cases hm
  | put e s v ih =>
    intro h
    simp only [Env.drop]
    cases hm : mem s mods with
    | true =>
      have hs := (mem_iff s mods).1 hm
      refine ih fun ht => ?_
      have := h ht
      have hb : Nat.beq s t = false := by
        cases hb : Nat.beq s t with
        | false => rfl
        | true => exact absurd (Nat.eq_of_beq_eq_true hb ▸ hs) ht
      simpa [Env.get, hb] using this
    | false =>
      have hs : s ∉ mods := fun hm' => by rw [(mem_iff s mods).2 hm'] at hm; cases hm
      simp only [cond_false, Env.get]
      cases hb : Nat.beq s t with
      | true =>
        have := Nat.eq_of_beq_eq_true hb
        subst this
        have := h hs
        simpa [Env.get, hb] using this
      | false =>
        simp only [cond_false]
        refine ih fun ht => ?_
        have := h ht
        simpa [Env.get, hb] using this

theorem puts_get (t : Nat) (u : Value) : ∀ (l : List (Nat × Value)) (e : Env), e.get t = u → (∀ p ∈ l, p.1 = t → p.2 = u) → (e.puts l).get t = u := by
  intro l
  induction l with
  | nil => intro e h _; exact h
  | cons p l ih =>
    obtain ⟨s, v⟩ := p
    intro e h hp
    simp only [Env.puts]
    refine ih _ ?_ (fun q hq => hp q (by simp [hq]))
    simp only [Env.get]
    cases hb : Nat.beq s t with
    | true => exact hp (s, v) (by simp) (Nat.eq_of_beq_eq_true hb)
    | false => exact h

theorem ents_get {e : Env} : ∀ (l : List (Nat × Value)), Ents e l → ∀ p ∈ l, e.get p.1 = p.2 := by
  intro l
  induction l with
  | nil => intro _ p hp; cases hp
  | cons q l ih =>
    intro h p hp
    rcases List.mem_cons.1 hp with rfl | hp
    · exact h.1
    · exact ih h.2 p hp

/-- At a loop's head: what the body does not write stands as it stood. -/
theorem agree_head {e e' : Env} {a a' : Act} {mods : List Nat} {l : List (Nat × Value)} (ha : Agree e a) (ha' : Agree e' a') (hk : ∀ t, t ∉ mods → a'.tmps.getD t undef = a.tmps.getD t undef)
    (hl : Ents e' l) : Agree ((e.drop mods fun t => a'.tmps.getD t undef).puts l) a' := by
  intro t
  refine (puts_get t _ l _ ?_ ?_).symm
  · exact drop_get mods _ t e fun ht => by rw [← ha t, hk t ht]
  · rintro ⟨s, v⟩ hp rfl
    have := ents_get l hl _ hp
    rw [ha' s]
    exact this.symm

theorem dC_sound {n : Nat} : ∀ (c : Code) (s : SC) (e : Env) (a : Act) (w : World) (Kn : Env → H → Prop) (Kx : SX → Env → H → Prop), compC P n c = some s → Agree e a → n ≤ a.tmps.size →
    dC P s e w.heap Kn Kx → c.wp P (Post a w n s.wr Kn Kx) a w := by
  intro c
  induction c with
  | skip =>
    intro s e a w Kn Kx hc ha hn hd
    simp only [compC, Option.some.injEq] at hc
    subst hc
    exact wp_skip ⟨Rest.refl w, rfl, hn, fun _ _ => rfl, e, ha, hd⟩
  | region id ops draw =>
    intro s e a w Kn Kx hc ha hn hd
    simp only [compC] at hc
    cases draw with
    | true =>
      simp only [if_true] at hc
      exact compD_sound hc ha hn hd
    | false =>
      simp only [Bool.false_eq_true, if_false] at hc
      cases hl : compL P n ops.toList ops.toList with
      | none => rw [hl] at hc; cases hc
      | some l =>
        rw [hl] at hc
        injection hc with hc
        subst hc
        have := dL_sound ops.toList Kn Kx ops.toList l e a w hl ha hn hd
        refine wp_region_list ?_
        rw [show ops.toList.toArray = ops from by simp] at this
        exact this
  | seq x y ihx ihy =>
    intro s e a w Kn Kx hc ha hn hd
    simp only [compC] at hc
    cases hx : compC P n x with
    | none => rw [hx] at hc; cases hc
    | some sx =>
    cases hy : compC P n y with
    | none => rw [hx, hy] at hc; cases hc
    | some sy =>
    rw [hx, hy] at hc
    injection hc with hc
    subst hc
    refine wp_seq (wp_mono (ihx sx e a w _ Kx hx ha hn hd) fun en a1 w1 hp => ?_)
    have up : ∀ en a1 w1, Post a w n sx.wr Kn Kx en a1 w1 → Post a w n (sx.wr ++ sy.wr) Kn Kx en a1 w1 := fun en a1 w1 hp => hp.weak fun t ht => List.mem_append_left _ ht
    have hp' := hp
    obtain ⟨hr, hdf, hn1, hk, e1, ha1, hm⟩ := hp
    cases en with
    | normal =>
      simp only [Exit.then]
      exact wp_mono (ihy sy e1 a1 w1 Kn Kx hy ha1 hn1 hm) fun en a2 w2 hq => hq.from hr hdf hk
    | exit i => exact (up (.exit i) a1 w1 ⟨hr, hdf, hn1, hk, e1, ha1, hm⟩)
    | ret => exact (up .ret a1 w1 ⟨hr, hdf, hn1, hk, e1, ha1, hm⟩)
    | goto l => exact hm.elim
    | panic ch => exact hm.elim
    | outgrown => exact hm.elim
  | cond c x y ihx ihy =>
    intro s e a w Kn Kx hc ha hn hd
    simp only [compC] at hc
    cases hx : compC P n x with
    | none => rw [hx] at hc; cases hc
    | some sx =>
    cases hy : compC P n y with
    | none => rw [hx, hy] at hc; cases hc
    | some sy =>
    rw [hx, hy] at hc
    injection hc with hc
    subst hc
    simp only [dC] at hd
    have hev : a.eval c = e.ev (opX c) := by rw [ha.eval, ev_opX]
    split at hd
    · rename_i hb
      exact wp_cond_true (by rw [hev, hb]) (wp_mono (ihx sx e a w Kn Kx hx ha hn hd) fun en a1 w1 hp => hp.weak fun t ht => List.mem_append_left _ ht)
    · rename_i hb
      exact wp_cond_false (by rw [hev, hb]) (wp_mono (ihy sy e a w Kn Kx hy ha hn hd) fun en a1 w1 hp => hp.weak fun t ht => List.mem_append_right _ ht)
    · exact hd.elim
  | block i b ih =>
    intro s e a w Kn Kx hc ha hn hd
    simp only [compC] at hc
    cases hb : compC P n b with
    | none => rw [hb] at hc; cases hc
    | some sb =>
    rw [hb] at hc
    injection hc with hc
    subst hc
    refine wp_block (wp_mono (ih sb e a w _ _ hb ha hn hd) fun en a1 w1 hp => ?_)
    obtain ⟨hr, hdf, hn1, hk, e1, ha1, hm⟩ := hp
    cases en with
    | normal => exact ⟨hr, hdf, hn1, hk, e1, ha1, hm⟩
    | exit j =>
      simp only [Exit.inBlock]
      simp only [blockX] at hm
      by_cases hji : j = i
      · subst hji
        rw [if_pos rfl]
        have : Nat.beq j j = true := Nat.beq_refl j
        rw [this] at hm
        exact ⟨hr, hdf, hn1, hk, e1, ha1, hm⟩
      · rw [if_neg hji]
        have : Nat.beq j i = false := by
          cases hb : Nat.beq j i with
          | false => rfl
          | true => exact absurd (Nat.eq_of_beq_eq_true hb) hji
        rw [this] at hm
        exact ⟨hr, hdf, hn1, hk, e1, ha1, hm⟩
    | ret => exact ⟨hr, hdf, hn1, hk, e1, ha1, hm⟩
    | goto l => exact hm.elim
    | panic ch => exact hm.elim
    | outgrown => exact hm.elim
  | loop b ih =>
    intro s e a w Kn Kx hc ha hn hd
    simp only [compC] at hc
    cases hb : compC P n b with
    | none => rw [hb] at hc; cases hc
    | some sb =>
    rw [hb] at hc
    injection hc with hc
    subst hc
    simp only [dC] at hd
    unfold LoopH at hd
    obtain ⟨σ, new, I, μ, s0, he0, hI0, hbody⟩ := hd
    have hsub : ∀ t, t ∈ sb.wr → t ∈ nub sb.wr := fun t ht => mem_nub t _ ht
    -- what stands at the head
    let J : σ → Act → World → Prop := fun s a' w' => Rest w w' ∧ a'.defers = a.defers ∧ n ≤ a'.tmps.size ∧ (∀ t, t ∉ nub sb.wr → a'.tmps.getD t undef = a.tmps.getD t undef) ∧
      I s w'.heap ∧ Agree ((e.drop (nub sb.wr) fun t => a'.tmps.getD t undef).puts (new s)) a'
    have hmin : ∀ a' w', (∃ s, J s a' w') → ∃ k, (∃ s, J s a' w' ∧ μ s w'.heap = k) ∧ ∀ m, (∃ s, J s a' w' ∧ μ s w'.heap = m) → k ≤ m := fun a' w' ⟨s, hs⟩ => least ⟨_, s, hs, rfl⟩
    classical
    refine wp_loop (fun a' w' => ∃ s, J s a' w') (fun a' w' => if h : ∃ s, J s a' w' then Classical.choose (hmin a' w' h) else 0) ?_ ?_
    · exact ⟨s0, Rest.refl w, rfl, hn, fun _ _ => rfl, hI0, agree_head ha ha (fun _ _ => rfl) he0⟩
    · intro a1 w1 hJ
      obtain ⟨⟨s, hs, hμ⟩, hle⟩ := Classical.choose_spec (hmin a1 w1 hJ)
      obtain ⟨hr, hdf, hn1, hk, hI, hag⟩ := hs
      refine wp_mono (ih sb _ a1 w1 _ Kx hb hag hn1 (hbody s w1.heap _ hI)) fun en a2 w2 hp => ?_
      obtain ⟨hr2, hdf2, hn2, hk2, e2, ha2, hm⟩ := hp
      have hk' : ∀ t, t ∉ nub sb.wr → a2.tmps.getD t undef = a.tmps.getD t undef := fun t ht => by
        rw [hk2 t (fun h => ht (hsub t h)), hk t ht]
      cases en with
      | normal =>
        obtain ⟨s', he', hI', hlt⟩ := hm
        have hJ' : J s' a2 w2 := ⟨hr.trans hr2, hdf2.trans hdf, hn2, hk', hI', agree_head ha ha2 hk' he'⟩
        refine ⟨⟨s', hJ'⟩, ?_⟩
        rw [dif_pos hJ, dif_pos ⟨s', hJ'⟩]
        obtain ⟨_, hle2⟩ := Classical.choose_spec (hmin a2 w2 ⟨s', hJ'⟩)
        have := hle2 _ ⟨s', hJ', rfl⟩
        omega
      | exit j => exact ⟨hr.trans hr2, hdf2.trans hdf, hn2, hk', e2, ha2, hm⟩
      | ret => exact ⟨hr.trans hr2, hdf2.trans hdf, hn2, hk', e2, ha2, hm⟩
      | goto l => exact hm.elim
      | panic ch => exact hm.elim
      | outgrown => exact hm.elim
  | exit i =>
    intro s e a w Kn Kx hc ha hn hd
    simp only [compC, Option.some.injEq] at hc
    subst hc
    exact wp_exit ⟨Rest.refl w, rfl, hn, fun _ _ => rfl, e, ha, hd⟩
  | ret =>
    intro s e a w Kn Kx hc ha hn hd
    simp only [compC, Option.some.injEq] at hc
    subst hc
    exact wp_ret ⟨Rest.refl w, rfl, hn, fun _ _ => rfl, e, ha, hd⟩
  | rangeFunc f ps x y => intro s e a w Kn Kx hc; simp [compC] at hc
  | scope b => intro s e a w Kn Kx hc; simp [compC] at hc
  | label l => intro s e a w Kn Kx hc; simp [compC] at hc
  | goto l => intro s e a w Kn Kx hc; simp [compC] at hc
  | refuse y => intro s e a w Kn Kx hc; simp [compC] at hc

/-! ### Results, and the call -/
def compR (P : Program) : List ResultVar → Option (List RV)
  | [] => some []
  | .tmp t :: r => match compR P r with
    | some l => some (.tmp t :: l)
    | none => none
  | .cell t T :: r => match isAggB P T, P.info? T, compR P r with
    | some true, some i, some l => some (.cells t i.size :: l)
    | some false, some _, some l => some (.cell t :: l)
    | _, _, _ => none

/-- A piece of effects that ends in the very world in which it began. -/
def Sx {α : Type} (P : Program) (s : Sem α) (w : World) (k : α → Prop) : Prop := ∃ a, s.run P w = .ok a w ∧ k a
theorem Sx.pure {α : Type} {a : α} {w : World} {k : α → Prop} (hk : k a) : Sx P (Pure.pure a) w k := ⟨a, rfl, hk⟩
theorem Sx.bind {α β : Type} {s : Sem α} {f : α → Sem β} {w : World} {k : β → Prop} (hs : Sx P s w fun a => Sx P (f a) w k) : Sx P (s >>= f) w k := by
  obtain ⟨a, hr, b, hr2, hk⟩ := hs
  exact ⟨b, by rw [Sem.run_bind, hr, Result.andThen_ok, hr2], hk⟩
theorem Sx.map {α β : Type} {s : Sem α} {f : α → β} {w : World} {k : β → Prop} (hs : Sx P s w fun a => k (f a)) : Sx P (f <$> s) w k := by
  obtain ⟨a, hr, hk⟩ := hs
  exact ⟨f a, by rw [Sem.run_map, hr, Result.andThen_ok], hk⟩
theorem Sx.load {a : Addr} {v : Value} {w : World} {k : Value → Prop} (hc : hcell w.heap a = some v) (hk : k v) : Sx P (Go.load a) w k :=
  ⟨v, by rw [run_load, cell?_eq, hc], hk⟩
theorem Sx.typeInfo {t : TypeId} {i : TypeInfo} {w : World} {k : TypeInfo → Prop} (hi : P.info? t = some i) (hk : k i) : Sx P (Go.typeInfo t) w k := ⟨i, by simp [Go.typeInfo, hi], hk⟩
theorem Sx.isAgg {t : TypeId} {b : Bool} {w : World} {k : Bool → Prop} (hb : isAggB P t = some b) (hk : k b) : Sx P (Go.isAgg t) w k := by
  unfold Go.isAgg isAggB at *
  cases hu : P.underlying t with
  | none => rw [hu] at hb; cases hb
  | some d =>
    rw [hu] at hb
    refine Sx.bind ⟨d, by simp [Go.underlying, hu], ?_⟩
    cases d <;> simp at hb <;> subst hb <;> exact Sx.pure hk
theorem Sx.loadCellsFrom {a : Addr} {w : World} {kk : Array Value → Prop} : ∀ (vs : List Value) (i : Nat) (acc : Array Value), cellsAt w.heap a i vs → kk (acc ++ vs.toArray) →
    Sx P (Go.loadCellsFrom a i vs.length acc) w kk := by
  intro vs
  induction vs with
  | nil => intro i acc _ hk; exact Sx.pure (by simpa using hk)
  | cons v r ih =>
    intro i acc hc hk
    rw [List.length_cons, cells_step]
    exact Sx.bind (Sx.load hc.1 (ih (i + 1) (acc.push v) hc.2 (by rw [show acc.push v ++ r.toArray = acc ++ (v :: r).toArray from by apply Array.ext'; simp]; exact hk)))

theorem rets_sound {e : Env} {tm : Array Value} (ht : ∀ t, tm.getD t undef = e.get t) {w : World} : ∀ (l : List ResultVar) (rs : List RV) (k : List Value → Prop) (acc : Array Value), compR P l = some rs → rets e w.heap rs k →
    Sx P (l.foldlM (fun (bs : Array Value) (r : ResultVar) => bs.push <$> (match r with
      | .tmp t => pure (tm.getD t undef)
      | .cell a t => do loadVar t (← asAddr (tm.getD a undef)))) acc) w fun vs => ∃ us, k us ∧ vs = acc ++ us.toArray := by
  intro l
  induction l with
  | nil =>
    intro rs k acc hc hr
    simp only [compR, Option.some.injEq] at hc
    subst hc
    exact Sx.pure ⟨[], hr, by simp⟩
  | cons r l ih =>
    intro rs k acc hc hr
    rw [List.foldlM_cons]
    have push : ∀ (v : Value) (us : List Value), acc.push v ++ us.toArray = acc ++ (v :: us).toArray := fun v us => by apply Array.ext'; simp
    have done : ∀ (v : Value) (rl : List RV), compR P l = some rl → (rets e w.heap rl fun vs => k (v :: vs)) → Sx P (l.foldlM (fun (bs : Array Value) (r : ResultVar) => bs.push <$> (match r with
      | .tmp t => pure (tm.getD t undef)
      | .cell a t => do loadVar t (← asAddr (tm.getD a undef)))) (acc.push v)) w fun vs => ∃ us, k us ∧ vs = acc ++ us.toArray := by
      intro v rl hl hr
      obtain ⟨vs, hrun, us, hk, rfl⟩ := ih rl _ (acc.push v) hl hr
      exact ⟨_, hrun, v :: us, hk, push v us⟩
    cases r with
    | tmp t =>
      simp only [compR] at hc
      cases hl : compR P l with
      | none => rw [hl] at hc; cases hc
      | some rl =>
        rw [hl] at hc
        injection hc with hc
        subst hc
        simp only [rets, force_eq] at hr
        rw [← ht t] at hr
        exact Sx.bind (Sx.map (Sx.pure (done _ rl hl hr)))
    | cell t T =>
      simp only [compR] at hc
      split at hc
      · rename_i i rl hb hi hl
        injection hc with hc
        subst hc
        simp only [rets] at hr
        split at hr
        · rename_i a hea
          have hta : tm.getD t undef = .pointer (some a) := by rw [ht t, hea]
          simp only [hta]
          unfold LdN at hr
          obtain ⟨cs, hlen, hcs, hr⟩ := hr
          refine Sx.bind (Sx.map (Sx.bind (Sx.pure ?_)))
          unfold Go.loadVar
          refine Sx.bind (Sx.isAgg hb ?_)
          refine Sx.bind (Sx.bind (Sx.typeInfo hi (Sx.pure ?_)))
          refine Sx.bind ?_
          unfold Go.loadCells
          rw [← hlen]
          exact Sx.loadCellsFrom cs 0 #[] hcs (Sx.pure (done _ rl hl (by simpa using hr)))
        · exact hr.elim
      · rename_i i rl hb hi hl
        injection hc with hc
        subst hc
        simp only [rets] at hr
        split at hr
        · rename_i a hea
          have hta : tm.getD t undef = .pointer (some a) := by rw [ht t, hea]
          simp only [hta]
          unfold Ld at hr
          obtain ⟨v, hv, hr⟩ := hr
          refine Sx.bind (Sx.map (Sx.bind (Sx.pure ?_)))
          unfold Go.loadVar
          refine Sx.bind (Sx.isAgg hb ?_)
          exact Sx.load hv (done _ rl hl hr)
        · exact hr.elim
      · cases hc

def compF (P : Program) (fn : Func) : Option (SC × List RV) :=
  match fn.body with
  | none => none
  | some c => match compC P fn.ntmps c, compR P fn.results.toList with
    | some s, some rs => some (s, rs)
    | _, _ => none

theorem envL_get : ∀ (l : List Value) (i t : Nat), i ≤ t → (envL i l).get t = l.getD (t - i) undef := by
  intro l
  induction l with
  | nil => intro i t _; simp [envL, Env.get]
  | cons v r ih =>
    intro i t h
    simp only [envL, Env.get]
    by_cases ht : i = t
    · subst ht
      simp
    · have hb : Nat.beq i t = false := by
        cases hb : Nat.beq i t with
        | false => rfl
        | true => exact absurd (Nat.eq_of_beq_eq_true hb) ht
      rw [hb, cond_false, ih (i + 1) t (by omega)]
      obtain ⟨k, hk⟩ : ∃ k, t - i = k + 1 := ⟨t - i - 1, by omega⟩
      rw [hk, show t - (i + 1) = k from by omega]
      rfl

theorem body_of {fn : Func} {s : SC} {rs : List RV} {args : List Value} {h : H} {R : Value → H → Prop} (hc : compF P fn = some (s, rs)) (hd : dF P s rs args h R) :
    ∃ c, fn.body = some c ∧ ∀ w : World, w.heap = h → c.wp P (bodyPost P fn fun e w' => ∃ v, e = .returned v ∧ Rest w w' ∧ R v w'.heap) { tmps := args.toArray ++ Array.replicate (fn.ntmps - args.toArray.size) undef, defers := [] } w := by
  unfold compF at hc
  split at hc
  · cases hc
  rename_i c hb
  split at hc
  rotate_left
  · cases hc
  rename_i s' rs' hs hr
  injection hc with hc
  injection hc with h1 h2
  subst h1 h2
  refine ⟨c, hb, fun w hw => ?_⟩
  subst hw
  let a0 : Act := { tmps := args.toArray ++ Array.replicate (fn.ntmps - args.toArray.size) undef, defers := [] }
  have hag : Agree (envL 0 args) a0 := by
    intro t
    rw [envL_get args 0 t (Nat.zero_le _)]
    simp only [a0, Array.getD_eq_getD_getElem?]
    by_cases ht : t < args.length
    · rw [Array.getElem?_append_left (by simpa using ht)]
      simp
    · rw [Array.getElem?_append_right (by simpa using Nat.le_of_not_lt ht)]
      have : args.getD t undef = undef := by
        rw [List.getD_eq_getElem?_getD, List.getElem?_eq_none (Nat.le_of_not_lt ht)]
        rfl
      simp only [Nat.sub_zero]
      rw [this]
      cases hq : (Array.replicate (fn.ntmps - args.toArray.size) undef)[t - args.toArray.size]? with
      | none => rfl
      | some v =>
        have := Array.getElem?_replicate (n := fn.ntmps - args.toArray.size) (v := undef) (i := t - args.toArray.size)
        rw [this] at hq
        split at hq
        · injection hq with hq; simp [← hq]
        · cases hq
  have hsz : fn.ntmps ≤ a0.tmps.size := by simp [a0]; omega
  have hwp := dC_sound c s' (envL 0 args) a0 w _ _ hs hag hsz hd
  refine wp_mono hwp fun x a' w' hp => ?_
  obtain ⟨hrest, hdf, hn1, hk, e1, ha1, hm⟩ := hp
  have fin : rets e1 w'.heap rs' (fun vs => R (retV vs) w'.heap) → a'.defers = [] ∧ ∃ v, (results fn a'.tmps).run P w' = .ok v w' ∧ ∃ u, Ending.returned v = .returned u ∧ Rest w w' ∧ R u w'.heap := by
    intro hrets
    refine ⟨hdf, ?_⟩
    obtain ⟨vs, hrun, us, hk, hvs⟩ := rets_sound (P := P) (tm := a'.tmps) ha1 fn.results.toList rs' _ #[] hr hrets
    refine ⟨retV us, ?_, _, rfl, hrest, hk⟩
    unfold results
    rw [Array.mapM_eq_foldlM, ← Array.foldlM_toList, Sem.run_bind]
    refine (congrArg (fun r => Result.andThen r _) hrun).trans ?_
    rw [Result.andThen_ok, hvs]
    cases us with
    | nil => rfl
    | cons u us =>
      cases us with
      | nil => rfl
      | cons v us =>
        rw [dif_neg (by simp)]
        simp [retV]
  cases x with
  | normal => exact fin hm
  | ret => exact fin hm
  | exit j => exact hm.elim
  | goto l => exact hm.elim
  | panic ch => exact hm.elim
  | outgrown => exact hm.elim

theorem Fn.of {f : FuncId} {fn : Func} {s : SC} {rs : List RV} {args : List Value} {h : H} {R : Value → H → Prop} (hf : P.funcs[f]? = some fn) (hc : compF P fn = some (s, rs)) (hd : dF P s rs args h R) :
    Fn P f args.toArray h R := by
  obtain ⟨c, hb, hw⟩ := body_of hc hd
  exact .intro fun w hh => calls_of_wp hf hb (hw w hh)

/-- A call of function f that a frame makes as it leaves. -/
def FnD (P : Program) (f : FuncId) (args : Array Value) (h : H) (R : Value → H → Prop) : Prop :=
  ∀ (u : FrameMode) (w : World), w.heap = h → CallsD P f args u w fun e u' w' => u' = u ∧ ∃ v, e = .returned v ∧ Rest w w' ∧ R v w'.heap
theorem FnD.of {f : FuncId} {fn : Func} {s : SC} {rs : List RV} {args : List Value} {h : H} {R : Value → H → Prop} (hf : P.funcs[f]? = some fn) (hc : compF P fn = some (s, rs)) (hd : dF P s rs args h R) :
    FnD P f args.toArray h R := by
  obtain ⟨c, hb, hw⟩ := body_of hc hd
  exact fun u w hh => callsD_of_wp hf hb (hw w hh)
end
end Go.Proofs.YtiabgojnljfmhaaGreat.Ov
