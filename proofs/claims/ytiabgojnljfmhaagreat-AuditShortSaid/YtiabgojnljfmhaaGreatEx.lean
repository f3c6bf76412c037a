/-
  WHERE WAYS MEET AGAIN: what is shown of a piece of a small text depends on what its slots hold, and grows with what is asked behind it. No condition: every statement is for every program.
-/
import Derived.Test.YtiabgojnljfmhaaGreatL
import Derived.Test.YtiabgojnljfmhaaGreatMo
namespace Go.Proofs.YtiabgojnljfmhaaGreat.Ov
def Eqv (e e' : Env) : Prop := ∀ t, e.get t = e'.get t
theorem Eqv.refl (e : Env) : Eqv e e := fun _ => rfl
theorem Eqv.put {e e' : Env} (h : Eqv e e') (t : Nat) (v : Value) : Eqv (e.put t v) (e'.put t v) := fun s => by simp only [Env.get]; rw [h s]
theorem Eqv.ev {e e' : Env} (h : Eqv e e') (x : X) : e.ev x = e'.ev x := by cases x <;> first | rfl | exact h _
section
variable {P : Program}
theorem xInt_ext {e e' : Env} (h : Eqv e e') (d : Int) (o : Option X) (q : Int → Prop) : xInt e d o q = xInt e' d o q := by
  unfold xInt
  cases o with
  | none => rfl
  | some x => simp only [h.ev x]
theorem fillL_ext {e e' : Env} (h : Eqv e e') : ∀ (ps : List (Nat × Nat × X)) (cs : List Value) (q : List Value → Prop), fillL e cs ps q = fillL e' cs ps q := by
  intro ps
  induction ps with
  | nil => intro cs q; rfl
  | cons p ps ih =>
    obtain ⟨o, s, x⟩ := p
    intro cs q
    simp only [fillL, force_eq, h.ev x, ih]
theorem Raw_ext {e e' : Env} (h : Eqv e e') (op : Op) (ty : TypeId) (hp : H) (k : Value → H → Prop) : Raw P e op ty hp k = Raw P e' op ty hp k := by
  unfold Raw
  have : e.get = e'.get := funext h
  rw [this]
theorem map_ext {e e' : Env} (h : Eqv e e') (l : List X) : l.map e.ev = l.map e'.ev := List.map_congr_left fun x _ => h.ev x
theorem vO_ext {e e' : Env} (he : Eqv e e') {h : H} {k : Value → H → Prop} {x : SO} (hv : vO P e h k x) : vO P e' h k x := by
  cases x
  case bdn => simp only [vO] at hv ⊢; unfold Fil at *; rw [← fillL_ext he]; exact hv
  all_goals (simp only [vO, he.ev, xInt_ext he, fillL_ext he, Raw_ext he, map_ext he] at hv ⊢; exact hv)

theorem dL_ext : ∀ (l : List S) {e e' : Env} {h : H} {K K' : Env → H → Prop}, Eqv e e' → (∀ e e' h, Eqv e e' → K e h → K' e' h) → dL P l e h K → dL P l e' h K' := by
  intro l
  induction l with
  | nil => intro e e' h K K' he hk hd; exact hk _ _ _ he hd
  | cons s r ih =>
    intro e e' h K K' he hk hd
    have gd : ∀ (v : Value) (want : Bool) (a b a' b' : Prop), (a → a') → (b → b') → guarded v want a b → guarded v want a' b' := by
      intro v want a b a' b' ha hb hg
      unfold guarded at *
      split at hg
      · cases want <;> first | exact hb hg | exact ha hg
      · cases want <;> first | exact hb hg | exact ha hg
      · exact hb hg
      · exact hg.elim
    cases s with
    | o d x => exact vO_mono (vO_ext he hd) fun v h' hh => ih (he.put d v) hk hh
    | n x => exact vO_mono (vO_ext he hd) fun v h' hh => ih he hk hh
    | g s want d x =>
      simp only [dL] at hd ⊢
      rw [← he s]
      exact gd _ _ _ _ _ _ (fun hd => vO_mono (vO_ext he hd) fun v h' hh => ih (he.put d v) hk hh) (fun hd => ih (he.put d undef) hk hd) hd
    | gn s want x =>
      simp only [dL] at hd ⊢
      rw [← he s]
      exact gd _ _ _ _ _ _ (fun hd => vO_mono (vO_ext he hd) fun v h' hh => ih he hk hh) (fun hd => ih he hk hd) hd

theorem dP_ext : ∀ (p : PS) {e e' : Env} {h : H} {K K' : Env → H → Prop}, Eqv e e' → (∀ e e' h, Eqv e e' → K e h → K' e' h) → dP P p e h K → dP P p e' h K' := by
  intro p
  induction p with
  | done => intro e e' h K K' he hk hd; exact hk _ _ _ he hd
  | stop => intro e e' h K K' _ _ _; trivial
  | take s p ih => intro e e' h K K' he hk hd; exact dL_ext [s] he (fun e e' h he hh => ih he hk hh) hd
  | alt s p q ihp ihq => intro e e' h K K' he hk hd; have hd := alt_out hd; exact alt_in ⟨dL_ext [s] he (fun e e' h he hh => ihp he hk hh) hd.1, ihq he hk hd.2⟩

theorem preL_ext {l : List (Nat × SO)} {e e' : Env} {h : H} {K K' : Env → H → Prop} (he : Eqv e e') (hk : ∀ e e' h, Eqv e e' → K e h → K' e' h) (hd : dL P (preL l) e h K) : dL P (preL l) e' h K' := dL_ext _ he hk hd
theorem needs_ext {Q : Nat → Value → H → Prop} {h : H} {k k' : Env → Prop} : ∀ (ds : List Nat) {e e' : Env}, Eqv e e' → (∀ e e', Eqv e e' → k e → k' e') → needs Q h ds e k → needs Q h ds e' k' := by
  intro ds
  induction ds with
  | nil => intro e e' he hk hn; exact hk _ _ he hn
  | cons t r ih =>
    intro e e' he hk hn v hq
    have := hn v hq
    rw [force_eq] at this ⊢
    exact ih (he.put t v) hk this
theorem oblH_ext {Q : Nat → Value → H → Prop} {h : H} {e e' : Env} (he : Eqv e e') : ∀ hd : List (Nat × List Nat × SO), oblH P Q e h hd → oblH P Q e' h hd := by
  intro hd
  induction hd with
  | nil => intro _; trivial
  | cons p r ih =>
    obtain ⟨t, ds, x⟩ := p
    intro ho
    exact ⟨fun h' ho' => needs_ext ds he (fun e e' he hv => vO_ext he hv) (ho.1 h' ho'), ih ho.2⟩
theorem FreeH_ext {hd : List (Nat × List Nat × SO)} {K K' : Env → H → Prop} {e e' : Env} {h : H} (he : Eqv e e') (hk : ∀ e e' h, Eqv e e' → K e h → K' e' h) (hf : FreeH P hd K e h) : FreeH P hd K' e' h := by
  unfold FreeH at *
  obtain ⟨Q, h1, h2, h3⟩ := hf
  exact ⟨Q, h1, oblH_ext he hd h2, fun h' ho => needs_ext _ he (fun e e' he hh => hk e e' h' he hh) (h3 h' ho)⟩

theorem vM_ext {M : List Nat} {e e' : Env} (he : Eqv e e') {h : H} {k : Value → H → Prop} {x : SO} (hv : vM P M e h k x) : vM P M e' h k x := by
  have plain : ∀ {x : SO}, vO P e h k x → vO P e' h k x := fun hv => vO_ext he hv
  cases x
  case ld y => simp only [vM, he.ev] at hv ⊢; exact hv
  case ldn y n => simp only [vM, he.ev] at hv ⊢; exact hv
  all_goals (unfold vM at hv ⊢; exact plain hv)
theorem gd_mono {v : Value} {want : Bool} {a b a' b' : Prop} (ha : a → a') (hb : b → b') (hg : guarded v want a b) : guarded v want a' b' := by
  unfold guarded at *
  split at hg
  · cases want <;> first | exact hb hg | exact ha hg
  · cases want <;> first | exact hb hg | exact ha hg
  · exact hb hg
  · exact hg.elim
theorem dM_ext {M : List Nat} : ∀ (l : List S) {e e' : Env} {h : H} {K K' : Env → H → Prop}, Eqv e e' → (∀ e e' h, Eqv e e' → K e h → K' e' h) → dM P M l e h K → dM P M l e' h K' := by
  intro l
  induction l with
  | nil => intro e e' h K K' he hk hd; exact hk _ _ _ he hd
  | cons s r ih =>
    intro e e' h K K' he hk hd
    cases s with
    | o d x => exact vM_mono (vM_ext he hd) fun v h' hh => ih (he.put d v) hk hh
    | n x => exact vM_mono (vM_ext he hd) fun v h' hh => ih he hk hh
    | g s want d x =>
      simp only [dM] at hd ⊢
      rw [← he s]
      exact gd_mono (fun hd => vM_mono (vM_ext he hd) fun v h' hh => ih (he.put d v) hk hh) (fun hd => ih (he.put d undef) hk hd) hd
    | gn s want x =>
      simp only [dM] at hd ⊢
      rw [← he s]
      exact gd_mono (fun hd => vM_mono (vM_ext he hd) fun v h' hh => ih he hk hh) (fun hd => ih he hk hd) hd
theorem altH_fst {M : List Nat} {h0 : H} {need : Bool} {s : S} {p q : PH} {e : Env} {h : H} {K : Env → H → Prop} (hd : dH P M h0 (.alt need s p q) e h K) : (dL P [s] e h fun e h' => bif need then Only M h0 h' ∧ dH P M h0 p e h' K else dH P M h0 p e h' K) ∧ dH P M h0 q e h K := by
  cases q <;> first | exact ⟨hd, trivial⟩ | exact hd
theorem altH_in {M : List Nat} {h0 : H} {need : Bool} {s : S} {p q : PH} {e : Env} {h : H} {K : Env → H → Prop} (hd : (dL P [s] e h fun e h' => bif need then Only M h0 h' ∧ dH P M h0 p e h' K else dH P M h0 p e h' K) ∧ dH P M h0 q e h K) : dH P M h0 (.alt need s p q) e h K := by
  cases q <;> first | exact hd | exact hd.1
theorem bif_mono {need : Bool} {a b b' : Prop} (hb : b → b') (h : bif need then a ∧ b else b) : bif need then a ∧ b' else b' := by
  cases need
  · exact hb h
  · exact ⟨h.1, hb h.2⟩
theorem dH_ext {M : List Nat} {h0 : H} : ∀ (p : PH) {e e' : Env} {h : H} {K K' : Env → H → Prop}, Eqv e e' → (∀ e e' h, Eqv e e' → K e h → K' e' h) → dH P M h0 p e h K → dH P M h0 p e' h K' := by
  intro p
  induction p with
  | done => intro e e' h K K' he hk hd; exact hk _ _ _ he hd
  | stop => intro e e' h K K' _ _ _; trivial
  | take s p ih => intro e e' h K K' he hk hd; exact dL_ext [s] he (fun e e' h he hh => ih he hk hh) hd
  | alt b s p q ihp ihq => intro e e' h K K' he hk hd; have hd := altH_fst hd; exact altH_in ⟨dL_ext [s] he (fun e e' h he hh => bif_mono (ihp he hk) hh) hd.1, ihq he hk hd.2⟩
theorem HeldH_ext {l : List S} {p : PH} {K K' : Env → H → Prop} {e e' : Env} {h : H} (he : Eqv e e') (hk : ∀ e e' h, Eqv e e' → K e h → K' e' h) (hd : HeldH P l p K e h) : HeldH P l p K' e' h := by
  unfold HeldH at *
  obtain ⟨M, hd⟩ := hd
  exact ⟨M, dM_ext l he (fun e e' h he hh => dH_ext p he hk hh) hd⟩

theorem drop_get' {mods : List Nat} {g : Nat → Value} : ∀ (t : Nat) (e : Env), (e.drop mods g).get t = bif mem t mods then g t else e.get t := by
  intro t e
  induction e with
  | base _ => rfl
  | put e s v ih =>
    simp only [Env.drop]
    cases hm : mem s mods with
    | true =>
      rw [cond_true, ih]
      cases ht : mem t mods with
      | true => rfl
      | false =>
        simp only [cond_false, Env.get]
        cases hb : Nat.beq s t with
        | true => have := Nat.eq_of_beq_eq_true hb; subst this; rw [hm] at ht; cases ht
        | false => rfl
    | false =>
      simp only [cond_false, Env.get]
      cases hb : Nat.beq s t with
      | true => have := Nat.eq_of_beq_eq_true hb; subst this; rw [hm]; rfl
      | false => rw [cond_false, ih]; rfl
theorem drop_ext {mods : List Nat} {g : Nat → Value} {e e' : Env} (h : Eqv e e') : Eqv (e.drop mods g) (e'.drop mods g) := fun t => by rw [drop_get', drop_get', h t]

theorem Ents_ext {e e' : Env} (h : Eqv e e') : ∀ l : List (Nat × Value), Ents e l → Ents e' l := by
  intro l
  induction l with
  | nil => intro _; trivial
  | cons p l ih => obtain ⟨t, v⟩ := p; exact fun hh => ⟨(h t).symm.trans hh.1, ih hh.2⟩
theorem puts_ext : ∀ (l : List (Nat × Value)) {e e' : Env}, Eqv e e' → Eqv (e.puts l) (e'.puts l) := by
  intro l
  induction l with
  | nil => intro e e' h; exact h
  | cons p l ih => obtain ⟨t, v⟩ := p; intro e e' h; exact ih (h.put t v)

/-- What is asked at the end may be weakened. -/
theorem dC_mono : ∀ (s : SC) {e : Env} {h : H} {Kn Kn' : Env → H → Prop} {Kx Kx' : SX → Env → H → Prop}, (∀ e h, Kn e h → Kn' e h) → (∀ x e h, Kx x e h → Kx' x e h) → dC P s e h Kn Kx → dC P s e h Kn' Kx' := by
  intro s
  induction s with
  | skip => intro e h Kn Kn' Kx Kx' hn hx hd; exact hn _ _ hd
  | ops l =>
    intro e h Kn Kn' Kx Kx' hn hx hd
    have mono : ∀ (l : List S) (e : Env) (h : H), dL P l e h Kn → dL P l e h Kn' := by
      intro l
      induction l with
      | nil => intro e h hd; exact hn _ _ hd
      | cons s r ih =>
        intro e h hd
        have gd : ∀ (v : Value) (want : Bool) (a b a' b' : Prop), (a → a') → (b → b') → guarded v want a b → guarded v want a' b' := by
          intro v want a b a' b' ha hb hg
          unfold guarded at *
          split at hg
          · cases want <;> first | exact hb hg | exact ha hg
          · cases want <;> first | exact hb hg | exact ha hg
          · exact hb hg
          · exact hg.elim
        cases s with
        | o d x => exact vO_mono hd fun v h' hh => ih _ _ hh
        | n x => exact vO_mono hd fun v h' hh => ih _ _ hh
        | g s want d x => exact gd _ _ _ _ _ _ (fun hd => vO_mono hd fun v h' hh => ih _ _ hh) (fun hd => ih _ _ hd) hd
        | gn s want x => exact gd _ _ _ _ _ _ (fun hd => vO_mono hd fun v h' hh => ih _ _ hh) (fun hd => ih _ _ hd) hd
    exact mono l e h hd
  | any p =>
    intro e h Kn Kn' Kx Kx' hn hx hd
    have mono1 : ∀ (s : S) (e : Env) (h : H) (K K' : Env → H → Prop), (∀ e h, K e h → K' e h) → dL P [s] e h K → dL P [s] e h K' := by
      intro s e h K K' hk hd
      have gd : ∀ (v : Value) (want : Bool) (a b a' b' : Prop), (a → a') → (b → b') → guarded v want a b → guarded v want a' b' := by
        intro v want a b a' b' ha hb hg
        unfold guarded at *
        split at hg
        · cases want <;> first | exact hb hg | exact ha hg
        · cases want <;> first | exact hb hg | exact ha hg
        · exact hb hg
        · exact hg.elim
      cases s with
      | o d x => exact vO_mono hd fun v h' hh => hk _ _ hh
      | n x => exact vO_mono hd fun v h' hh => hk _ _ hh
      | g s want d x => exact gd _ _ _ _ _ _ (fun hd => vO_mono hd fun v h' hh => hk _ _ hh) (fun hd => hk _ _ hd) hd
      | gn s want x => exact gd _ _ _ _ _ _ (fun hd => vO_mono hd fun v h' hh => hk _ _ hh) (fun hd => hk _ _ hd) hd
    have mono : ∀ (p : PS) (e : Env) (h : H), dP P p e h Kn → dP P p e h Kn' := by
      intro p
      induction p with
      | done => intro e h hd; exact hn _ _ hd
      | stop => intro e h _; trivial
      | take s p ih => intro e h hd; exact mono1 s e h _ _ (fun e h hh => ih e h hh) hd
      | alt s p q ihp ihq => intro e h hd; have hd := alt_out hd; exact alt_in ⟨mono1 s e h _ _ (fun e h hh => ihp e h hh) hd.1, ihq e h hd.2⟩
    exact mono p e h hd
  | held l p =>
    intro e h Kn Kn' Kx Kx' hn hx hd
    simp only [dC] at hd ⊢
    unfold HeldH at *
    obtain ⟨M, hd⟩ := hd
    have dl : ∀ (s : S) (e : Env) (h : H) (K K' : Env → H → Prop), (∀ e h, K e h → K' e h) → dL P [s] e h K → dL P [s] e h K' := by
      intro s e h K K' hk hd
      cases s with
      | o d x => exact vO_mono hd fun v h' hh => hk _ _ hh
      | n x => exact vO_mono hd fun v h' hh => hk _ _ hh
      | g s want d x => exact gd_mono (fun hd => vO_mono hd fun v h' hh => hk _ _ hh) (fun hd => hk _ _ hd) hd
      | gn s want x => exact gd_mono (fun hd => vO_mono hd fun v h' hh => hk _ _ hh) (fun hd => hk _ _ hd) hd
    have dm : ∀ (l : List S) (e : Env) (h : H) (K K' : Env → H → Prop), (∀ e h, K e h → K' e h) → dM P M l e h K → dM P M l e h K' := by
      intro l
      induction l with
      | nil => intro e h K K' hk hd; exact hk _ _ hd
      | cons s r ih =>
        intro e h K K' hk hd
        cases s with
        | o d x => exact vM_mono hd fun v h' hh => ih _ _ _ _ hk hh
        | n x => exact vM_mono hd fun v h' hh => ih _ _ _ _ hk hh
        | g s want d x => exact gd_mono (fun hd => vM_mono hd fun v h' hh => ih _ _ _ _ hk hh) (fun hd => ih _ _ _ _ hk hd) hd
        | gn s want x => exact gd_mono (fun hd => vM_mono hd fun v h' hh => ih _ _ _ _ hk hh) (fun hd => ih _ _ _ _ hk hd) hd
    have dh : ∀ (h0 : H) (p : PH) (e : Env) (h : H), dH P M h0 p e h Kn → dH P M h0 p e h Kn' := by
      intro h0 p
      induction p with
      | done => intro e h hd; exact hn _ _ hd
      | stop => intro e h _; trivial
      | take s p ih => intro e h hd; exact dl s e h _ _ (fun e h hh => ih e h hh) hd
      | alt b s p q ihp ihq => intro e h hd; have hd := altH_fst hd; exact altH_in ⟨dl s e h _ _ (fun e h hh => bif_mono (ihp e h) hh) hd.1, ihq e h hd.2⟩
    exact ⟨M, dm l e h _ _ (fun e h' hh => dh h p e h' hh) hd⟩
  | free pre hd tl =>
    intro e h Kn Kn' Kx Kx' hn hx hd'
    have mono : ∀ (l : List S) (e : Env) (h : H) (K K' : Env → H → Prop), (∀ e h, K e h → K' e h) → dL P l e h K → dL P l e h K' := by
      intro l
      induction l with
      | nil => intro e h K K' hk hd; exact hk _ _ hd
      | cons s r ih =>
        intro e h K K' hk hd
        have gd : ∀ (v : Value) (want : Bool) (a b a' b' : Prop), (a → a') → (b → b') → guarded v want a b → guarded v want a' b' := by
          intro v want a b a' b' ha hb hg
          unfold guarded at *
          split at hg
          · cases want <;> first | exact hb hg | exact ha hg
          · cases want <;> first | exact hb hg | exact ha hg
          · exact hb hg
          · exact hg.elim
        cases s with
        | o d x => exact vO_mono hd fun v h' hh => ih _ _ _ _ hk hh
        | n x => exact vO_mono hd fun v h' hh => ih _ _ _ _ hk hh
        | g s want d x => exact gd _ _ _ _ _ _ (fun hd => vO_mono hd fun v h' hh => ih _ _ _ _ hk hh) (fun hd => ih _ _ _ _ hk hd) hd
        | gn s want x => exact gd _ _ _ _ _ _ (fun hd => vO_mono hd fun v h' hh => ih _ _ _ _ hk hh) (fun hd => ih _ _ _ _ hk hd) hd
    refine mono _ e h _ _ (fun e h hf => ?_) hd'
    unfold FreeH at *
    obtain ⟨Q, h1, h2, h3⟩ := hf
    have nm : ∀ (ds : List Nat) (e : Env) (h : H) (k k' : Env → Prop), (∀ e, k e → k' e) → needs Q h ds e k → needs Q h ds e k' := by
      intro ds
      induction ds with
      | nil => intro e h k k' hk hn; exact hk _ hn
      | cons t r ih =>
        intro e h k k' hk hn v hq
        have := hn v hq
        rw [force_eq] at this ⊢
        exact ih _ _ _ _ hk this
    exact ⟨Q, h1, h2, fun h' ho => nm _ _ _ _ _ (fun e hh => mono tl e h' _ _ hn hh) (h3 h' ho)⟩
  | seq a b iha ihb => intro e h Kn Kn' Kx Kx' hn hx hd; exact iha (fun e h hh => ihb hn hx hh) hx hd
  | cond c a b iha ihb =>
    intro e h Kn Kn' Kx Kx' hn hx hd
    simp only [dC] at hd ⊢
    split at hd
    · exact iha hn hx hd
    · exact ihb hn hx hd
    · exact hd.elim
  | block i b ih =>
    intro e h Kn Kn' Kx Kx' hn hx hd
    simp only [dC] at hd ⊢
    refine ih hn (fun x e h hh => ?_) hd
    cases x with
    | ret => exact hx _ _ _ hh
    | exit j =>
      simp only [blockX] at hh ⊢
      cases hb : Nat.beq j i <;> rw [hb] at hh
      · exact hx _ _ _ hh
      · exact hn _ _ hh
  | loop m b ih =>
    intro e h Kn Kn' Kx Kx' hn hx hd
    simp only [dC] at hd ⊢
    unfold LoopH at hd ⊢
    obtain ⟨σ, new, I, μ, s0, h1, h2, h3⟩ := hd
    exact ⟨σ, new, I, μ, s0, h1, h2, fun s h' g hs => ih (fun e h hh => hh) hx (h3 s h' g hs)⟩
  | exit i => intro e h Kn Kn' Kx Kx' hn hx hd; exact hx _ _ _ hd
  | ret => intro e h Kn Kn' Kx Kx' hn hx hd; exact hx _ _ _ hd

theorem dC_ext : ∀ (s : SC) {e e' : Env} {h : H} {Kn Kn' : Env → H → Prop} {Kx Kx' : SX → Env → H → Prop}, Eqv e e' → (∀ e e' h, Eqv e e' → Kn e h → Kn' e' h) → (∀ x e e' h, Eqv e e' → Kx x e h → Kx' x e' h) →
    dC P s e h Kn Kx → dC P s e' h Kn' Kx' := by
  intro s
  induction s with
  | skip => intro e e' h Kn Kn' Kx Kx' he hn hx hd; exact hn _ _ _ he hd
  | ops l => intro e e' h Kn Kn' Kx Kx' he hn hx hd; exact dL_ext l he hn hd
  | any p => intro e e' h Kn Kn' Kx Kx' he hn hx hd; exact dP_ext p he hn hd
  | held l p => intro e e' h Kn Kn' Kx Kx' he hn hx hd; exact HeldH_ext he hn hd
  | free pre hd tl => intro e e' h Kn Kn' Kx Kx' he hn hx hd'; exact dL_ext _ he (fun e e' h he hf => FreeH_ext he (fun e e' h he hh => dL_ext tl he hn hh) hf) hd'
  | seq a b iha ihb => intro e e' h Kn Kn' Kx Kx' he hn hx hd; exact iha he (fun e e' h he hh => ihb he hn hx hh) hx hd
  | cond c a b iha ihb =>
    intro e e' h Kn Kn' Kx Kx' he hn hx hd
    simp only [dC] at hd ⊢
    rw [← he.ev c]
    split at hd
    · exact iha he hn hx hd
    · exact ihb he hn hx hd
    · exact hd.elim
  | block i b ih =>
    intro e e' h Kn Kn' Kx Kx' he hn hx hd
    simp only [dC] at hd ⊢
    refine ih he hn (fun x e e' h he hh => ?_) hd
    cases x with
    | ret => exact hx _ _ _ _ he hh
    | exit j =>
      simp only [blockX] at hh ⊢
      cases hb : Nat.beq j i <;> rw [hb] at hh
      · exact hx _ _ _ _ he hh
      · exact hn _ _ _ he hh
  | loop m b ih =>
    intro e e' h Kn Kn' Kx Kx' he hn hx hd
    simp only [dC] at hd ⊢
    unfold LoopH at hd ⊢
    obtain ⟨σ, new, I, μ, s0, h1, h2, h3⟩ := hd
    exact ⟨σ, new, I, μ, s0, Ents_ext he _ h1, h2, fun s h' g hs => ih (puts_ext _ (drop_ext he)) (fun e e' h he hh => hh.imp fun s' ⟨a, b⟩ => ⟨Ents_ext he _ a, b⟩) hx (h3 s h' g hs)⟩
  | exit i => intro e e' h Kn Kn' Kx Kx' he hn hx hd; exact hx _ _ _ _ he hd
  | ret => intro e e' h Kn Kn' Kx Kx' he hn hx hd; exact hx _ _ _ _ he hd

/-- What is asked looks at the slots alone. -/
class Ext (K : Env → H → Prop) : Prop where
  out : ∀ e e' h, Eqv e e' → K e h → K e' h
class ExtX (K : SX → Env → H → Prop) : Prop where
  out : ∀ x e e' h, Eqv e e' → K x e h → K x e' h
theorem rets_ext {e e' : Env} (he : Eqv e e') : ∀ (rs : List RV) (h : H) (k : List Value → Prop), rets e h rs k = rets e' h rs k := by
  intro rs
  induction rs with
  | nil => intro h k; rfl
  | cons r rs ih =>
    intro h k
    cases r <;> simp only [rets, he _, ih]
instance instRetK (rs : List RV) (R : Value → H → Prop) : Ext (retK rs R) := ⟨fun e e' h he hh => by unfold retK at *; rw [← rets_ext he]; exact hh⟩
instance instRetX (rs : List RV) (R : Value → H → Prop) : ExtX (retX rs R) := ⟨fun x e e' h he hh => by
  cases x with
  | ret => exact (instRetK rs R).out e e' h he hh
  | exit j => exact hh⟩
instance instBlockX (i : Nat) (Kn : Env → H → Prop) (Kx : SX → Env → H → Prop) [hn : Ext Kn] [hx : ExtX Kx] : ExtX (blockX i Kn Kx) := ⟨fun x e e' h he hh => by
  cases x with
  | ret => exact hx.out _ e e' h he hh
  | exit j =>
    simp only [blockX] at hh ⊢
    cases hb : Nat.beq j i <;> rw [hb] at hh
    · exact hx.out _ e e' h he hh
    · exact hn.out e e' h he hh⟩
instance instDC (b : SC) (Kn : Env → H → Prop) (Kx : SX → Env → H → Prop) [hn : Ext Kn] [hx : ExtX Kx] : Ext (fun e h => dC P b e h Kn Kx) := ⟨fun _ _ _ he hh => dC_ext b he hn.out hx.out hh⟩
instance instRound {σ : Type} (new : σ → List (Nat × Value)) (I : σ → H → Prop) : Ext (fun e h => ∃ s, Ents e (new s) ∧ I s h) := ⟨fun _ _ _ he ⟨s, h1, h2⟩ => ⟨s, Ents_ext he _ h1, h2⟩⟩
instance instRound2 {σ : Type} (new : σ → List (Nat × Value)) (I J : σ → H → Prop) : Ext (fun e h => ∃ s, Ents e (new s) ∧ I s h ∧ J s h) := ⟨fun _ _ _ he ⟨s, h1, h2⟩ => ⟨s, Ents_ext he _ h1, h2⟩⟩

theorem ents_eqv {e : Env} : ∀ (l : List (Nat × Value)) (e0 : Env), Eqv e0 e → Ents e l → Eqv (e0.puts l) e := by
  intro l
  induction l with
  | nil => intro e0 h _; exact h
  | cons p l ih =>
    obtain ⟨t, v⟩ := p
    intro e0 h hl
    refine ih _ (fun s => ?_) hl.2
    simp only [Env.get]
    cases hb : Nat.beq t s with
    | true => have := Nat.eq_of_beq_eq_true hb; subst this; exact hl.1.symm
    | false => exact h s

/-- The ways through a meet again: what is known then of the slots, and of the heap. -/
theorem seq_join {a b : SC} {e : Env} {h : H} {Kn : Env → H → Prop} {Kx : SX → Env → H → Prop} {σ : Type} (new : σ → List (Nat × Value)) (I : σ → H → Prop) [hn : Ext Kn] [hx : ExtX Kx]
    (h1 : dC P a e h (fun e' h' => ∃ s, Ents e' (new s) ∧ I s h') Kx) (h2 : ∀ s h' g, I s h' → putsK (new s) (.base g) fun e2 => dC P b e2 h' Kn Kx) : dC P (.seq a b) e h Kn Kx := by
  refine dC_mono a (fun e' h' => ?_) (fun _ _ _ h => h) h1
  rintro ⟨s, he, hs⟩
  have := h2 s h' e'.get hs
  rw [putsK_eq] at this
  exact dC_ext b (ents_eqv _ (.base e'.get) (fun _ => rfl) he) hn.out hx.out this

/-- A test that lets the round go on. -/
theorem dC_on {c : X} {b r : SC} {e : Env} {h : H} {Kn : Env → H → Prop} {Kx : SX → Env → H → Prop} (hc : e.ev c = .bool true) (hk : dC P r e h Kn Kx) : dC P (.seq (.cond c .skip b) r) e h Kn Kx := by
  simp only [dC, hc]; exact hk
theorem dC_seq {a b : SC} {e : Env} {h : H} {Kn : Env → H → Prop} {Kx : SX → Env → H → Prop} (hk : dC P a e h (fun e h => dC P b e h Kn Kx) Kx) : dC P (.seq a b) e h Kn Kx := hk
theorem dC_block {i : Nat} {b : SC} {e : Env} {h : H} {Kn : Env → H → Prop} {Kx : SX → Env → H → Prop} (hk : dC P b e h Kn (blockX i Kn Kx)) : dC P (.block i b) e h Kn Kx := hk
/-- A row of operations begins. (Ahead of a long row of guarded ones: without it the unfolding may hang.) -/
theorem dC_ops {l : List S} {e : Env} {h : H} {Kn : Env → H → Prop} {Kx : SX → Env → H → Prop} (hk : dL P l e h Kn) : dC P (.ops l) e h Kn Kx := hk
/-- A move, its value told. (Where the unfolding hangs.) -/
theorem dL_mv {d n : Nat} {v : Value} {r : List S} {e : Env} {h : H} {K : Env → H → Prop} (hv : e.get n = v) (hk : dL P r (e.put d v) h K) : dL P (.o d (.mv (.t n)) :: r) e h K := by
  simp only [dL, vO, force_eq, Env.ev, hv]
  exact hk
theorem dL_mo {d : Nat} {x : X} {v : Value} {r : List S} {e : Env} {h : H} {K : Env → H → Prop} (hv : e.ev x = v) (hk : dL P r (e.put d v) h K) : dL P (.o d (.mv x) :: r) e h K := by
  simp only [dL, vO, force_eq, hv]
  exact hk
/-- A row of operations is done. -/
theorem dL_nil {e : Env} {h : H} {K : Env → H → Prop} (hk : K e h) : dL P [] e h K := hk
theorem dC_skip {e : Env} {h : H} {Kn : Env → H → Prop} {Kx : SX → Env → H → Prop} (hk : Kn e h) : dC P .skip e h Kn Kx := hk

/-! ### Regions in which nothing that was there is touched -/
/-- A value built of parts, one of them of many cells. -/
theorem Fil.nil {e : Env} {z : List Value} {k : List Value → Prop} (hk : k z) : Fil e z [] k := by unfold Fil; exact hk
theorem putL_at : ∀ (l : List Value) (i : Nat) (cs : List Value), putL l i cs = putAt l i cs := by
  intro l
  induction l with
  | nil => intro i cs; rfl
  | cons v r ih => intro i cs; exact ih _ _
theorem Fil.cons {e : Env} {z : List Value} {off sz : Nat} {x : X} {ps : List (Nat × Nat × X)} {k : List Value → Prop} {v : Value} (a b : List Value) (hx : e.ev x = v) (hs : (cellsOf v).length = sz) (hz : z = a ++ b) (ha : a.length = off) (hb : sz ≤ b.length)
    (hk : Fil e (a ++ cellsOf v ++ b.drop sz) ps k) : Fil e z ((off, sz, x) :: ps) k := by
  unfold Fil at *
  simp only [fillL, force_eq, hx]
  subst hz ha hs
  have h1 : (Nat.beq (cellsOf v).length (cellsOf v).length && Nat.ble (a.length + (cellsOf v).length) (a ++ b).length) = true := by
    rw [Nat.beq_refl, Bool.true_and]
    exact Nat.ble_eq_true_of_le (by rw [List.length_append]; omega)
  rw [h1, cond_true, putL_at, putAt_mid _ _ _ hb]
  exact hk

/-- What is known of a slot's value, as long as no block that is there changes. -/
structure SP where
  p : Value → H → Prop
  keep : ∀ v h1 h2, Sims h1 h2 → p v h1 → p v h2
def qOf : List (Nat × SP) → Nat → Value → H → Prop
  | [], _, _, _ => True
  | (t, s) :: r, u, v, h => bif Nat.beq t u then s.p v h else qOf r u v h
theorem FreeH.mk {hd : List (Nat × List Nat × SO)} {K : Env → H → Prop} {e : Env} {h : H} (l : List (Nat × SP)) (h1 : oblH P (qOf l) e h hd) (h2 : ∀ h', Keep h.size h h' → needs (qOf l) h' (hd.map (·.1)) e fun e' => K e' h') : FreeH P hd K e h := by
  unfold FreeH
  refine ⟨qOf l, ?_, h1, h2⟩
  clear h1 h2
  intro t v a b ho
  induction l with
  | nil => intro _; trivial
  | cons p r ih =>
    obtain ⟨u, s⟩ := p
    intro hq
    simp only [qOf] at *
    cases hb : Nat.beq u t with
    | true => rw [hb] at hq; exact s.keep v a b ho hq
    | false => rw [hb] at hq; exact ih hq
/-- A slice of numbers of its own. -/
def SP.own (q : IntKind) (lo : Nat) (xs : List Int) : SP where
  p v h := ∃ b n c, v = .slice b n c ∧ OwnS h lo b n c 1 (xs.map (.int q))
  keep v h1 h2 ho := fun ⟨b, n, c, hv, hs⟩ => ⟨b, n, c, hv, hs.sims ho⟩
/-- A slice of numbers that can be read. -/
def SP.nums (q : IntKind) (xs : List Int) : SP where
  p v h := ∃ b n c, v = .slice b n c ∧ Nums q h b n xs
  keep v h1 h2 ho := fun ⟨b, n, c, hv, hs⟩ => ⟨b, n, c, hv, hs.sims ho⟩
/-- A block of its own. -/
def SP.blk (lo : Nat) (f : Nat → Value) (cs : List Value) : SP where
  p v h := ∃ b, v = f b ∧ lo ≤ b ∧ Blk h b cs
  keep v h1 h2 ho := fun ⟨b, hv, hl, hs⟩ => ⟨b, hv, hl, hs.sims ho⟩
theorem HeldH.mk (M : List Nat) {l : List S} {p : PH} {K : Env → H → Prop} {e : Env} {h : H} (hd : dM P M l e h fun e h' => dH P M h p e h' K) : HeldH P l p K e h := by
  unfold HeldH; exact ⟨M, hd⟩
theorem LdM.mk {M : List Nat} {h : H} {a : Addr} {k : Value → Prop} (hn : a.block ∉ M) (hd : Ld h a k) : LdM M h a k := by
  unfold LdM; exact ⟨hn, hd⟩
theorem S2a.mk {a : Option Addr} {m n : Nat} {k : Option Addr → Prop} (hn : n ≤ m) (hk : k a) : S2a a m n k := by
  unfold S2a; exact ⟨hn, hk⟩
theorem LdNM.mk {M : List Nat} {h : H} {a : Addr} {n : Nat} {k : Value → Prop} (hn : a.block ∉ M) (hd : LdN h a n k) : LdNM M h a n k := by
  unfold LdNM; exact ⟨hn, hd⟩
theorem Mrk.blk {h : H} {a : Addr} {cs : List Value} {k : H → Prop} (hb : Blk h a.block cs) (hk : ∀ h', Blk h' a.block cs → Sims h h' → Only [a.block] h h' → h'.size = h.size → k h') : Mrk h a k := by
  unfold Mrk
  have hb0 := hb
  obtain ⟨T, fz, hb, hz⟩ := hb
  refine ⟨_, T, fz, hb, ?_⟩
  have hm : (hfreeze h a.block cs.toArray.size)[a.block]? = some (.cells cs.toArray T (cs.length, cs.length + 1)) := by
    unfold hfreeze
    rw [Array.getElem?_modify, if_pos rfl, hb]
    rcases hz with rfl | rfl
    · simp
    · simp
  have ho : ∀ b, b ≠ a.block → (hfreeze h a.block cs.toArray.size)[b]? = h[b]? := fun b hn => by
    unfold hfreeze
    rw [Array.getElem?_modify, if_neg (fun h => hn h.symm)]
  have hsz : (hfreeze h a.block cs.toArray.size).size = h.size := by simp [hfreeze]
  refine hk _ ⟨T, _, hm, .inr rfl⟩ ⟨by omega, fun b hb' => ?_⟩ ⟨by omega, fun b hb' hn => ho b (by simpa using hn)⟩ hsz
  by_cases hba : b = a.block
  · subst hba
    exact .inr ⟨_, T, fz, _, hb, hm, by simpa using hz, by simp [okz]⟩
  · exact .inl (ho b hba)
theorem Only.keepN {M : List Nat} {n : Nat} {h h' : H} (o : Only M h h') (s : Sims h h') (hn : n ≤ h.size) (hm : ∀ x ∈ M, n ≤ x) : Keep n h h' :=
  ⟨s, fun b hb => o.same b (Nat.lt_of_lt_of_le hb hn) fun hx => by have := hm b hx; omega⟩
end
end Go.Proofs.YtiabgojnljfmhaaGreat.Ov
