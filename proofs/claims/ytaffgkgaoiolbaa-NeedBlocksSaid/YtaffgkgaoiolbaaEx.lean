/-
  WHERE WAYS MEET AGAIN: what is shown of a piece of a small text depends on what its slots hold, and grows with what is asked behind it. No condition: every statement is for every program.
-/
import Derived.Test.YtaffgkgaoiolbaaL
import Derived.Test.YtaffgkgaoiolbaaMo
namespace Go.Proofs.Ytaffgkgaoiolbaa.Ov
def Eqv (e e' : Env) : Prop := ∀ t, e.get t = e'.get t
theorem Eqv.refl (e : Env) : Eqv e e := fun _ => rfl
theorem Eqv.put {e e' : Env} (h : Eqv e e') (t : Nat) (v : Value) : Eqv (e.put t v) (e'.put t v) := fun s => by simp only [Env.get]; rw [h s]
theorem Eqv.ev {e e' : Env} (h : Eqv e e') (x : X) : e.ev x = e'.ev x := by cases x <;> first | rfl | exact h _
section
variable {P : Program}
theorem xInt_ext {e e' : Env} (h : Eqv e e') (d : Int) (o : Option X) (q : Int → Prop) : xInt e d o q = xInt e' d o q := by
  unfold xInt
  cases o with
  | none => rfl
  | some x => simp only [h.ev x]
theorem fillL_ext {e e' : Env} (h : Eqv e e') : ∀ (ps : List (Nat × Nat × X)) (cs : List Value) (q : List Value → Prop), fillL e cs ps q = fillL e' cs ps q := by
  intro ps
  induction ps with
  | nil => intro cs q; rfl
  | cons p ps ih =>
    obtain ⟨o, s, x⟩ := p
    intro cs q
    simp only [fillL, force_eq, h.ev x, ih]
theorem Raw_ext {e e' : Env} (h : Eqv e e') (op : Op) (ty : TypeId) (hp : H) (k : Value → H → Prop) : Raw P e op ty hp k = Raw P e' op ty hp k := by
  unfold Raw
  have : e.get = e'.get := funext h
  rw [this]
theorem map_ext {e e' : Env} (h : Eqv e e') (l : List X) : l.map e.ev = l.map e'.ev := List.map_congr_left fun x _ => h.ev x
theorem vO_ext {e e' : Env} (he : Eqv e e') {h : H} {k : Value → H → Prop} {x : SO} (hv : vO P e h k x) : vO P e' h k x := by
  cases x <;> simp only [vO, he.ev, xInt_ext he, fillL_ext he, Raw_ext he, map_ext he] at hv ⊢ <;> exact hv

theorem dL_ext : ∀ (l : List S) {e e' : Env} {h : H} {K K' : Env → H → Prop}, Eqv e e' → (∀ e e' h, Eqv e e' → K e h → K' e' h) → dL P l e h K → dL P l e' h K' := by
  intro l
  induction l with
  | nil => intro e e' h K K' he hk hd; exact hk _ _ _ he hd
  | cons s r ih =>
    intro e e' h K K' he hk hd
    have gd : ∀ (v : Value) (want : Bool) (a b a' b' : Prop), (a → a') → (b → b') → guarded v want a b → guarded v want a' b' := by
      intro v want a b a' b' ha hb hg
      unfold guarded at *
      split at hg
      · cases want <;> first | exact hb hg | exact ha hg
      · cases want <;> first | exact hb hg | exact ha hg
      · exact hb hg
      · exact hg.elim
    cases s with
    | o d x => exact vO_mono (vO_ext he hd) fun v h' hh => ih (he.put d v) hk hh
    | n x => exact vO_mono (vO_ext he hd) fun v h' hh => ih he hk hh
    | g s want d x =>
      simp only [dL] at hd ⊢
      rw [← he s]
      exact gd _ _ _ _ _ _ (fun hd => vO_mono (vO_ext he hd) fun v h' hh => ih (he.put d v) hk hh) (fun hd => ih (he.put d undef) hk hd) hd
    | gn s want x =>
      simp only [dL] at hd ⊢
      rw [← he s]
      exact gd _ _ _ _ _ _ (fun hd => vO_mono (vO_ext he hd) fun v h' hh => ih he hk hh) (fun hd => ih he hk hd) hd

theorem dP_ext : ∀ (p : PS) {e e' : Env} {h : H} {K K' : Env → H → Prop}, Eqv e e' → (∀ e e' h, Eqv e e' → K e h → K' e' h) → dP P p e h K → dP P p e' h K' := by
  intro p
  induction p with
  | done => intro e e' h K K' he hk hd; exact hk _ _ _ he hd
  | stop => intro e e' h K K' _ _ _; trivial
  | take s p ih => intro e e' h K K' he hk hd; exact dL_ext [s] he (fun e e' h he hh => ih he hk hh) hd
  | alt s p q ihp ihq => intro e e' h K K' he hk hd; have hd := alt_out hd; exact alt_in ⟨dL_ext [s] he (fun e e' h he hh => ihp he hk hh) hd.1, ihq he hk hd.2⟩

theorem drop_get' {mods : List Nat} {g : Nat → Value} : ∀ (t : Nat) (e : Env), (e.drop mods g).get t = bif mem t mods then g t else e.get t := by
  intro t e
  induction e with
  | base _ => rfl
  | put e s v ih =>
    simp only [Env.drop]
    cases hm : mem s mods with
    | true =>
      rw [cond_true, ih]
      cases ht : mem t mods with
      | true => rfl
      | false =>
        simp only [cond_false, Env.get]
        cases hb : Nat.beq s t with
        | true => have := Nat.eq_of_beq_eq_true hb; subst this; rw [hm] at ht; cases ht
        | false => rfl
    | false =>
      simp only [cond_false, Env.get]
      cases hb : Nat.beq s t with
      | true => have := Nat.eq_of_beq_eq_true hb; subst this; rw [hm]; rfl
      | false => rw [cond_false, ih]; rfl
theorem drop_ext {mods : List Nat} {g : Nat → Value} {e e' : Env} (h : Eqv e e') : Eqv (e.drop mods g) (e'.drop mods g) := fun t => by rw [drop_get', drop_get', h t]

theorem Ents_ext {e e' : Env} (h : Eqv e e') : ∀ l : List (Nat × Value), Ents e l → Ents e' l := by
  intro l
  induction l with
  | nil => intro _; trivial
  | cons p l ih => obtain ⟨t, v⟩ := p; exact fun hh => ⟨(h t).symm.trans hh.1, ih hh.2⟩
theorem puts_ext : ∀ (l : List (Nat × Value)) {e e' : Env}, Eqv e e' → Eqv (e.puts l) (e'.puts l) := by
  intro l
  induction l with
  | nil => intro e e' h; exact h
  | cons p l ih => obtain ⟨t, v⟩ := p; intro e e' h; exact ih (h.put t v)

/-- What is asked at the end may be weakened. -/
theorem dC_mono : ∀ (s : SC) {e : Env} {h : H} {Kn Kn' : Env → H → Prop} {Kx Kx' : SX → Env → H → Prop}, (∀ e h, Kn e h → Kn' e h) → (∀ x e h, Kx x e h → Kx' x e h) → dC P s e h Kn Kx → dC P s e h Kn' Kx' := by
  intro s
  induction s with
  | skip => intro e h Kn Kn' Kx Kx' hn hx hd; exact hn _ _ hd
  | ops l =>
    intro e h Kn Kn' Kx Kx' hn hx hd
    have mono : ∀ (l : List S) (e : Env) (h : H), dL P l e h Kn → dL P l e h Kn' := by
      intro l
      induction l with
      | nil => intro e h hd; exact hn _ _ hd
      | cons s r ih =>
        intro e h hd
        have gd : ∀ (v : Value) (want : Bool) (a b a' b' : Prop), (a → a') → (b → b') → guarded v want a b → guarded v want a' b' := by
          intro v want a b a' b' ha hb hg
          unfold guarded at *
          split at hg
          · cases want <;> first | exact hb hg | exact ha hg
          · cases want <;> first | exact hb hg | exact ha hg
          · exact hb hg
          · exact hg.elim
        cases s with
        | o d x => exact vO_mono hd fun v h' hh => ih _ _ hh
        | n x => exact vO_mono hd fun v h' hh => ih _ _ hh
        | g s want d x => exact gd _ _ _ _ _ _ (fun hd => vO_mono hd fun v h' hh => ih _ _ hh) (fun hd => ih _ _ hd) hd
        | gn s want x => exact gd _ _ _ _ _ _ (fun hd => vO_mono hd fun v h' hh => ih _ _ hh) (fun hd => ih _ _ hd) hd
    exact mono l e h hd
  | any p =>
    intro e h Kn Kn' Kx Kx' hn hx hd
    have mono1 : ∀ (s : S) (e : Env) (h : H) (K K' : Env → H → Prop), (∀ e h, K e h → K' e h) → dL P [s] e h K → dL P [s] e h K' := by
      intro s e h K K' hk hd
      have gd : ∀ (v : Value) (want : Bool) (a b a' b' : Prop), (a → a') → (b → b') → guarded v want a b → guarded v want a' b' := by
        intro v want a b a' b' ha hb hg
        unfold guarded at *
        split at hg
        · cases want <;> first | exact hb hg | exact ha hg
        · cases want <;> first | exact hb hg | exact ha hg
        · exact hb hg
        · exact hg.elim
      cases s with
      | o d x => exact vO_mono hd fun v h' hh => hk _ _ hh
      | n x => exact vO_mono hd fun v h' hh => hk _ _ hh
      | g s want d x => exact gd _ _ _ _ _ _ (fun hd => vO_mono hd fun v h' hh => hk _ _ hh) (fun hd => hk _ _ hd) hd
      | gn s want x => exact gd _ _ _ _ _ _ (fun hd => vO_mono hd fun v h' hh => hk _ _ hh) (fun hd => hk _ _ hd) hd
    have mono : ∀ (p : PS) (e : Env) (h : H), dP P p e h Kn → dP P p e h Kn' := by
      intro p
      induction p with
      | done => intro e h hd; exact hn _ _ hd
      | stop => intro e h _; trivial
      | take s p ih => intro e h hd; exact mono1 s e h _ _ (fun e h hh => ih e h hh) hd
      | alt s p q ihp ihq => intro e h hd; have hd := alt_out hd; exact alt_in ⟨mono1 s e h _ _ (fun e h hh => ihp e h hh) hd.1, ihq e h hd.2⟩
    exact mono p e h hd
  | seq a b iha ihb => intro e h Kn Kn' Kx Kx' hn hx hd; exact iha (fun e h hh => ihb hn hx hh) hx hd
  | cond c a b iha ihb =>
    intro e h Kn Kn' Kx Kx' hn hx hd
    simp only [dC] at hd ⊢
    split at hd
    · exact iha hn hx hd
    · exact ihb hn hx hd
    · exact hd.elim
  | block i b ih =>
    intro e h Kn Kn' Kx Kx' hn hx hd
    simp only [dC] at hd ⊢
    refine ih hn (fun x e h hh => ?_) hd
    cases x with
    | ret => exact hx _ _ _ hh
    | exit j =>
      simp only [blockX] at hh ⊢
      cases hb : Nat.beq j i <;> rw [hb] at hh
      · exact hx _ _ _ hh
      · exact hn _ _ hh
  | loop m b ih =>
    intro e h Kn Kn' Kx Kx' hn hx hd
    simp only [dC] at hd ⊢
    unfold LoopH at hd ⊢
    obtain ⟨σ, new, I, μ, s0, h1, h2, h3⟩ := hd
    exact ⟨σ, new, I, μ, s0, h1, h2, fun s h' g hs => ih (fun e h hh => hh) hx (h3 s h' g hs)⟩
  | exit i => intro e h Kn Kn' Kx Kx' hn hx hd; exact hx _ _ _ hd
  | ret => intro e h Kn Kn' Kx Kx' hn hx hd; exact hx _ _ _ hd

theorem dC_ext : ∀ (s : SC) {e e' : Env} {h : H} {Kn Kn' : Env → H → Prop} {Kx Kx' : SX → Env → H → Prop}, Eqv e e' → (∀ e e' h, Eqv e e' → Kn e h → Kn' e' h) → (∀ x e e' h, Eqv e e' → Kx x e h → Kx' x e' h) →
    dC P s e h Kn Kx → dC P s e' h Kn' Kx' := by
  intro s
  induction s with
  | skip => intro e e' h Kn Kn' Kx Kx' he hn hx hd; exact hn _ _ _ he hd
  | ops l => intro e e' h Kn Kn' Kx Kx' he hn hx hd; exact dL_ext l he hn hd
  | any p => intro e e' h Kn Kn' Kx Kx' he hn hx hd; exact dP_ext p he hn hd
  | seq a b iha ihb => intro e e' h Kn Kn' Kx Kx' he hn hx hd; exact iha he (fun e e' h he hh => ihb he hn hx hh) hx hd
  | cond c a b iha ihb =>
    intro e e' h Kn Kn' Kx Kx' he hn hx hd
    simp only [dC] at hd ⊢
    rw [← he.ev c]
    split at hd
    · exact iha he hn hx hd
    · exact ihb he hn hx hd
    · exact hd.elim
  | block i b ih =>
    intro e e' h Kn Kn' Kx Kx' he hn hx hd
    simp only [dC] at hd ⊢
    refine ih he hn (fun x e e' h he hh => ?_) hd
    cases x with
    | ret => exact hx _ _ _ _ he hh
    | exit j =>
      simp only [blockX] at hh ⊢
      cases hb : Nat.beq j i <;> rw [hb] at hh
      · exact hx _ _ _ _ he hh
      · exact hn _ _ _ he hh
  | loop m b ih =>
    intro e e' h Kn Kn' Kx Kx' he hn hx hd
    simp only [dC] at hd ⊢
    unfold LoopH at hd ⊢
    obtain ⟨σ, new, I, μ, s0, h1, h2, h3⟩ := hd
    exact ⟨σ, new, I, μ, s0, Ents_ext he _ h1, h2, fun s h' g hs => ih (puts_ext _ (drop_ext he)) (fun e e' h he hh => hh.imp fun s' ⟨a, b⟩ => ⟨Ents_ext he _ a, b⟩) hx (h3 s h' g hs)⟩
  | exit i => intro e e' h Kn Kn' Kx Kx' he hn hx hd; exact hx _ _ _ _ he hd
  | ret => intro e e' h Kn Kn' Kx Kx' he hn hx hd; exact hx _ _ _ _ he hd

/-- What is asked looks at the slots alone. -/
class Ext (K : Env → H → Prop) : Prop where
  out : ∀ e e' h, Eqv e e' → K e h → K e' h
class ExtX (K : SX → Env → H → Prop) : Prop where
  out : ∀ x e e' h, Eqv e e' → K x e h → K x e' h
theorem rets_ext {e e' : Env} (he : Eqv e e') : ∀ (rs : List RV) (h : H) (k : List Value → Prop), rets e h rs k = rets e' h rs k := by
  intro rs
  induction rs with
  | nil => intro h k; rfl
  | cons r rs ih =>
    intro h k
    cases r <;> simp only [rets, he _, ih]
instance instRetK (rs : List RV) (R : Value → H → Prop) : Ext (retK rs R) := ⟨fun e e' h he hh => by unfold retK at *; rw [← rets_ext he]; exact hh⟩
instance instRetX (rs : List RV) (R : Value → H → Prop) : ExtX (retX rs R) := ⟨fun x e e' h he hh => by
  cases x with
  | ret => exact (instRetK rs R).out e e' h he hh
  | exit j => exact hh⟩
instance instBlockX (i : Nat) (Kn : Env → H → Prop) (Kx : SX → Env → H → Prop) [hn : Ext Kn] [hx : ExtX Kx] : ExtX (blockX i Kn Kx) := ⟨fun x e e' h he hh => by
  cases x with
  | ret => exact hx.out _ e e' h he hh
  | exit j =>
    simp only [blockX] at hh ⊢
    cases hb : Nat.beq j i <;> rw [hb] at hh
    · exact hx.out _ e e' h he hh
    · exact hn.out e e' h he hh⟩
instance instDC (b : SC) (Kn : Env → H → Prop) (Kx : SX → Env → H → Prop) [hn : Ext Kn] [hx : ExtX Kx] : Ext (fun e h => dC P b e h Kn Kx) := ⟨fun _ _ _ he hh => dC_ext b he hn.out hx.out hh⟩
instance instRound {σ : Type} (new : σ → List (Nat × Value)) (I : σ → H → Prop) : Ext (fun e h => ∃ s, Ents e (new s) ∧ I s h) := ⟨fun _ _ _ he ⟨s, h1, h2⟩ => ⟨s, Ents_ext he _ h1, h2⟩⟩
instance instRound2 {σ : Type} (new : σ → List (Nat × Value)) (I J : σ → H → Prop) : Ext (fun e h => ∃ s, Ents e (new s) ∧ I s h ∧ J s h) := ⟨fun _ _ _ he ⟨s, h1, h2⟩ => ⟨s, Ents_ext he _ h1, h2⟩⟩

theorem ents_eqv {e : Env} : ∀ (l : List (Nat × Value)) (e0 : Env), Eqv e0 e → Ents e l → Eqv (e0.puts l) e := by
  intro l
  induction l with
  | nil => intro e0 h _; exact h
  | cons p l ih =>
    obtain ⟨t, v⟩ := p
    intro e0 h hl
    refine ih _ (fun s => ?_) hl.2
    simp only [Env.get]
    cases hb : Nat.beq t s with
    | true => have := Nat.eq_of_beq_eq_true hb; subst this; exact hl.1.symm
    | false => exact h s

/-- The ways through a meet again: what is known then of the slots, and of the heap. -/
theorem seq_join {a b : SC} {e : Env} {h : H} {Kn : Env → H → Prop} {Kx : SX → Env → H → Prop} {σ : Type} (new : σ → List (Nat × Value)) (I : σ → H → Prop) [hn : Ext Kn] [hx : ExtX Kx]
    (h1 : dC P a e h (fun e' h' => ∃ s, Ents e' (new s) ∧ I s h') Kx) (h2 : ∀ s h' g, I s h' → putsK (new s) (.base g) fun e2 => dC P b e2 h' Kn Kx) : dC P (.seq a b) e h Kn Kx := by
  refine dC_mono a (fun e' h' => ?_) (fun _ _ _ h => h) h1
  rintro ⟨s, he, hs⟩
  have := h2 s h' e'.get hs
  rw [putsK_eq] at this
  exact dC_ext b (ents_eqv _ (.base e'.get) (fun _ => rfl) he) hn.out hx.out this

/-- A test that lets the round go on. -/
theorem dC_on {c : X} {b r : SC} {e : Env} {h : H} {Kn : Env → H → Prop} {Kx : SX → Env → H → Prop} (hc : e.ev c = .bool true) (hk : dC P r e h Kn Kx) : dC P (.seq (.cond c .skip b) r) e h Kn Kx := by
  simp only [dC, hc]; exact hk
theorem dC_seq {a b : SC} {e : Env} {h : H} {Kn : Env → H → Prop} {Kx : SX → Env → H → Prop} (hk : dC P a e h (fun e h => dC P b e h Kn Kx) Kx) : dC P (.seq a b) e h Kn Kx := hk
theorem dC_block {i : Nat} {b : SC} {e : Env} {h : H} {Kn : Env → H → Prop} {Kx : SX → Env → H → Prop} (hk : dC P b e h Kn (blockX i Kn Kx)) : dC P (.block i b) e h Kn Kx := hk
/-- A row of operations is done. -/
theorem dL_nil {e : Env} {h : H} {K : Env → H → Prop} (hk : K e h) : dL P [] e h K := hk
theorem dC_skip {e : Env} {h : H} {Kn : Env → H → Prop} {Kx : SX → Env → H → Prop} (hk : Kn e h) : dC P .skip e h Kn Kx := hk
end
end Go.Proofs.Ytaffgkgaoiolbaa.Ov
