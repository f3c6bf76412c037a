/-
  'vO' GROWS WITH WHAT IS ASKED BEHIND IT; and what a pure operation gives, it gives from every heap. No condition: every statement is for every program.
-/
import Derived.Test.YtiabgojnljfmhaaGreatB
namespace Go.Proofs.YtiabgojnljfmhaaGreat.Ov
/-- Leaves the world as it is. -/
def SO.still : SO → Bool
  | .mv _ | .nil _ | .fld _ _ | .ld _ | .ldn _ _ | .ar _ _ _ | .bt _ _ _ | .dv _ _ _ | .sh _ _ _ | .cm _ _ _ | .not _ | .neg _ | .pk _ _ _ | .ix _ _ _ | .ixa _ _ _ _ | .sl _ _ _ _ _ | .sla _ _ _ _ _ _
  | .len _ | .lens _ | .mm _ _ _ | .mm3 _ _ _ _ | .ex _ _ | .fe _ _ _ | .cv _ _ | .s2a _ _ | .bd _ _ | .bdn _ _ => true
  | _ => false
/-- Does not look at the world. -/
def SO.pure : SO → Bool
  | .ld _ | .ldn _ _ => false
  | x => x.still
theorem pure_still {x : SO} (h : x.pure = true) : x.still = true := by cases x <;> first | rfl | (simp [SO.pure, SO.still] at h)
section
variable {P : Program} {e : Env} {h : H} {k k' : Value → H → Prop}

theorem stN_mono {a : Addr} {q q' : H → Prop} (hq : ∀ h, q h → q' h) : ∀ (vs : List Value) (i : Nat) (h : H), stN h a i vs q → stN h a i vs q' := by
  intro vs
  induction vs with
  | nil => intro i h hs; exact hq _ hs
  | cons v r ih =>
    intro i h hs
    simp only [stN] at hs ⊢
    unfold St at hs ⊢
    exact ⟨hs.1, hs.2.1, hs.2.2.1, ih _ _ hs.2.2.2⟩

theorem sized_mono {sz : Nat} {p p' : Prop} (hp : p → p') : ∀ vs : List Value, sized sz vs p → sized sz vs p' := by
  intro vs
  induction vs with
  | nil => exact hp
  | cons v r ih =>
    intro hs
    simp only [sized] at *
    cases hb : Nat.beq (cellsOf v).length sz with
    | false => rw [hb] at hs; exact hs.elim
    | true => rw [hb] at hs; exact ih hs
theorem fillL_mono {q q' : List Value → Prop} (hq : ∀ l, q l → q' l) : ∀ (ps : List (Nat × Nat × X)) (cs : List Value), fillL e cs ps q → fillL e cs ps q' := by
  intro ps
  induction ps with
  | nil => intro cs hs; exact hq _ hs
  | cons p ps ih =>
    obtain ⟨o, s, x⟩ := p
    intro cs hs
    simp only [fillL, force_eq] at *
    cases hb : (Nat.beq (cellsOf (e.ev x)).length s && Nat.ble (o + s) cs.length) with
    | false => rw [hb] at hs; exact hs.elim
    | true => rw [hb] at hs; exact ih _ hs
theorem xInt_mono {d : Int} {o : Option X} {q q' : Int → Prop} (hq : ∀ n, q n → q' n) (hs : xInt e d o q) : xInt e d o q' := by
  unfold xInt at *
  cases o with
  | none => exact hq _ hs
  | some x =>
    simp only [] at hs ⊢
    cases hx : e.ev x <;> rw [hx] at hs <;> first | exact hs.elim | exact hq _ hs
theorem kEq_mono {a b : IntKind} {p p' : Prop} (hp : p → p') (hk : kEq a b p) : kEq a b p' := by
  cases a <;> cases b <;> first | exact hp hk | exact hk.elim

theorem kEq_in {a : IntKind} {p : Prop} (hp : p) : kEq a a p := by cases a <;> exact hp

theorem vO_mono {x : SO} (hv : vO P e h k x) (hk : ∀ v h', k v h' → k' v h') : vO P e h k' x := by
  cases x <;> simp only [vO, force_eq, forceL_eq] at hv ⊢
  case mv => exact hk _ _ hv
  case nil => split at hv <;> first | exact hk _ _ hv | exact hv.elim
  case fld => split at hv <;> first | exact hk _ _ hv | exact hv.elim
  case ld => split at hv <;> first | exact hv.elim | (unfold Ld at *; exact hv.imp fun _ h => ⟨h.1, hk _ _ h.2⟩)
  case ldn => split at hv <;> first | exact hv.elim | (unfold LdN at *; exact hv.imp fun _ h => ⟨h.1, h.2.1, hk _ _ h.2.2⟩)
  case st => split at hv <;> first | exact hv.elim | (unfold St at *; exact ⟨hv.1, hv.2.1, hv.2.2.1, hk _ _ hv.2.2.2⟩)
  case stn => split at hv <;> first | exact hv.elim | (unfold StN at *; exact ⟨hv.1, stN_mono (fun _ => hk _ _) _ _ _ hv.2⟩)
  case ar => split at hv <;> first | exact hv.elim | (refine kEq_mono (fun hv => ?_) hv; split at hv <;> first | exact hv.elim | (unfold Ar at *; exact hk _ _ hv))
  case bt => split at hv <;> first | exact hv.elim | (refine kEq_mono (fun hv => ?_) hv; split at hv <;> first | exact hv.elim | (unfold Bits at *; exact hk _ _ hv))
  case dv => split at hv <;> first | exact hv.elim | (refine kEq_mono (fun hv => ?_) hv; split at hv <;> first | exact hv.elim | (unfold Quo at *; exact ⟨hv.1, hk _ _ hv.2⟩) | (unfold Rem at *; exact ⟨hv.1, hk _ _ hv.2⟩))
  case sh => split at hv <;> first | exact hv.elim | (split at hv <;> first | exact hv.elim | (unfold Shl at *; exact ⟨hv.1, hk _ _ hv.2⟩) | (unfold Shr at *; exact ⟨hv.1, hk _ _ hv.2⟩))
  case cm => split at hv <;> first | exact hv.elim | (refine kEq_mono (fun hv => ?_) hv; split at hv <;> first | exact hv.elim | (unfold CLt at *; exact hk _ _ hv) | (unfold CLe at *; exact hk _ _ hv) | (unfold CEq at *; exact hk _ _ hv) | (unfold CNe at *; exact hk _ _ hv))
  case not => split at hv <;> first | exact hk _ _ hv | exact hv.elim
  case neg => split at hv <;> first | exact hv.elim | (unfold Ar at *; exact hk _ _ hv)
  case pk => split at hv <;> first | exact hk _ _ hv | exact hv.elim
  case ix => split at hv <;> first | exact hv.elim | (unfold Ix at *; exact ⟨hv.1, hv.2.1, hv.2.2.imp fun _ h => ⟨h.1, hk _ _ h.2⟩⟩)
  case ixa => split at hv <;> first | exact hv.elim | (unfold Ix at *; exact ⟨hv.1, hv.2.1, hv.2.2.imp fun _ h => ⟨h.1, hk _ _ h.2⟩⟩)
  case sl => split at hv <;> first | exact hv.elim | exact xInt_mono (fun _ => xInt_mono fun _ => xInt_mono fun _ h => by unfold Sl at *; exact ⟨h.1, h.2.1, h.2.2.1, h.2.2.2.1, hk _ _ h.2.2.2.2⟩) hv
  case sla => split at hv <;> first | exact hv.elim | exact xInt_mono (fun _ => xInt_mono fun _ => xInt_mono fun _ h => by unfold Sl at *; exact ⟨h.1, h.2.1, h.2.2.1, h.2.2.2.1, hk _ _ h.2.2.2.2⟩) hv
  case call => exact hv.mono hk
  case len => split at hv <;> first | exact hk _ _ hv | exact hv.elim
  case lens => split at hv <;> first | exact hk _ _ hv | exact hv.elim
  case mm => split at hv <;> first | exact hv.elim | (split at hv <;> exact hk _ _ hv)
  case mm3 => split at hv <;> first | exact hv.elim | (split at hv <;> exact hk _ _ hv)
  case app =>
    split at hv
    · unfold App at *
      obtain ⟨new, h1, h2, h3⟩ := hv
      refine ⟨new, h1, fun hle => ?_, fun hlt => ?_⟩
      · have := h2 hle
        split at this
        · exact hk _ _ this
        · exact stN_mono (fun _ => hk _ _) _ _ _ this
      · obtain ⟨a, b, old, c, d⟩ := h3 hlt
        exact ⟨a, b, old, c, fun nc hnc => hk _ _ (d nc hnc)⟩
    · exact hv.elim
  case bs => exact sized_mono (fun h => by unfold New at *; exact hk _ _ h) _ hv
  case bd => exact fillL_mono (fun _ => hk _ _) _ _ hv
  case bdn => unfold Fil at *; exact fillL_mono (fun _ => hk _ _) _ _ hv
  case ms =>
    split at hv
    · unfold Mk at *
      exact ⟨hv.1, hv.2.1, hv.2.2.1, hv.2.2.2.1, hk _ _ hv.2.2.2.2⟩
    · exact hv.elim
  case bx => unfold New at *; exact hk _ _ hv
  case al => unfold New at *; exact hk _ _ hv
  case ex => split at hv <;> first | exact hv.elim | (split at hv <;> first | exact hk _ _ hv | exact hv.elim)
  case fe => split at hv <;> first | exact hv.elim | (split at hv <;> first | exact hk _ _ hv | (split at hv <;> first | exact hk _ _ hv | exact hv.elim))
  case cv => split at hv <;> first | exact hv.elim | (unfold Ar at *; exact hk _ _ hv)
  case s2a => split at hv <;> first | exact hv.elim | (unfold S2a at *; exact ⟨hv.1, hk _ _ hv.2⟩)
  case mrk => split at hv <;> first | exact hv.elim | (unfold Mrk at *; obtain ⟨c, T, fz, h1, h2⟩ := hv; exact ⟨c, T, fz, h1, hk _ _ h2⟩)
  case raw =>
    unfold Raw RawO at *
    refine hv.mono fun nx h' hn => ?_
    cases nx <;> simp only [okN] at * <;> first | exact hk _ _ hn | exact ⟨hn.1, hk _ _ hn.2⟩ | exact ⟨hn.1, hn.2.mono hk⟩

theorem xInt_all {d : Int} {o : Option X} {q : Int → Prop} (hs : xInt e d o q) : ∃ n, q n ∧ ∀ q' : Int → Prop, q' n → xInt e d o q' := by
  unfold xInt at *
  cases o with
  | none => exact ⟨d, hs, fun _ h => h⟩
  | some x =>
    simp only [] at hs ⊢
    cases hx : e.ev x <;> rw [hx] at hs <;> first | exact hs.elim | exact ⟨_, hs, fun _ h => h⟩

theorem fillL_all {q : List Value → Prop} : ∀ (ps : List (Nat × Nat × X)) (cs : List Value), fillL e cs ps q → ∃ ds, q ds ∧ ∀ q' : List Value → Prop, q' ds → fillL e cs ps q' := by
  intro ps
  induction ps with
  | nil => intro cs hs; exact ⟨cs, hs, fun _ h => h⟩
  | cons p ps ih =>
    obtain ⟨o, s, x⟩ := p
    intro cs hs
    simp only [fillL, force_eq] at *
    cases hb : (Nat.beq (cellsOf (e.ev x)).length s && Nat.ble (o + s) cs.length) with
    | false => rw [hb] at hs; exact hs.elim
    | true =>
      rw [hb, cond_true] at hs
      obtain ⟨ds, h1, h2⟩ := ih _ hs
      exact ⟨ds, h1, fun q' hq => by rw [cond_true]; exact h2 q' hq⟩
/-- What a pure operation gives, it gives from every heap. -/
theorem pure_all {x : SO} (hp : x.pure = true) (hv : vO P e h k x) : ∃ v, k v h ∧ ∀ h' (k' : Value → H → Prop), k' v h' → vO P e h' k' x := by
  cases x <;> first | (simp [SO.pure, SO.still] at hp; done) | skip
  all_goals simp only [vO, force_eq, forceL_eq] at hv ⊢
  case mv => exact ⟨_, hv, fun _ _ hq => hq⟩
  case nil => split at hv <;> first | (rename_i he; (try rw [he]); exact ⟨_, hv, fun _ _ hq => hq⟩) | exact hv.elim
  case fld => split at hv <;> first | (rename_i he; (try rw [he]); exact ⟨_, hv, fun _ _ hq => hq⟩) | exact hv.elim
  case ar =>
    split at hv
    · rename_i he1 he2
      (try rw [he1, he2])
      have hw := kEq_out hv
      clear hv
      obtain ⟨rfl, hv⟩ := hw
      split at hv <;> first | exact hv.elim | (unfold Ar at hv; refine ⟨_, hv, fun _ _ hq => ?_⟩; refine kEq_in ?_; unfold Ar; exact hq)
    · exact hv.elim
  case bt =>
    split at hv
    · rename_i he1 he2
      (try rw [he1, he2])
      have hw := kEq_out hv
      clear hv
      obtain ⟨rfl, hv⟩ := hw
      split at hv <;> first | exact hv.elim | (unfold Bits at hv; refine ⟨_, hv, fun _ _ hq => ?_⟩; refine kEq_in ?_; unfold Bits; exact hq)
    · exact hv.elim
  case dv =>
    split at hv
    · rename_i he1 he2
      (try rw [he1, he2])
      have hw := kEq_out hv
      clear hv
      obtain ⟨rfl, hv⟩ := hw
      split at hv <;> first | exact hv.elim | (unfold Quo at hv; refine ⟨_, hv.2, fun _ _ hq => ?_⟩; refine kEq_in ?_; unfold Quo; exact ⟨hv.1, hq⟩) | (unfold Rem at hv; refine ⟨_, hv.2, fun _ _ hq => ?_⟩; refine kEq_in ?_; unfold Rem; exact ⟨hv.1, hq⟩)
    · exact hv.elim
  case sh =>
    split at hv
    · rename_i he1 he2
      (try rw [he1, he2])
      split at hv <;> first | exact hv.elim | (unfold Shl at hv; refine ⟨_, hv.2, fun _ _ hq => ?_⟩; unfold Shl; exact ⟨hv.1, hq⟩) | (unfold Shr at hv; refine ⟨_, hv.2, fun _ _ hq => ?_⟩; unfold Shr; exact ⟨hv.1, hq⟩)
    · exact hv.elim
  case cm =>
    split at hv
    · rename_i he1 he2
      (try rw [he1, he2])
      have hw := kEq_out hv
      clear hv
      obtain ⟨rfl, hv⟩ := hw
      split at hv <;> first
        | exact hv.elim
        | (unfold CLt at hv; refine ⟨_, hv, fun _ _ hq => ?_⟩; refine kEq_in ?_; unfold CLt; exact hq)
        | (unfold CLe at hv; refine ⟨_, hv, fun _ _ hq => ?_⟩; refine kEq_in ?_; unfold CLe; exact hq)
        | (unfold CEq at hv; refine ⟨_, hv, fun _ _ hq => ?_⟩; refine kEq_in ?_; unfold CEq; exact hq)
        | (unfold CNe at hv; refine ⟨_, hv, fun _ _ hq => ?_⟩; refine kEq_in ?_; unfold CNe; exact hq)
    · exact hv.elim
  case not => split at hv <;> first | (rename_i he; (try rw [he]); exact ⟨_, hv, fun _ _ hq => hq⟩) | exact hv.elim
  case neg => split at hv <;> first | (rename_i he; (try rw [he]); unfold Ar at hv; refine ⟨_, hv, fun _ _ hq => ?_⟩; unfold Ar; exact hq) | exact hv.elim
  case pk => split at hv <;> first | (rename_i he; (try rw [he]); exact ⟨_, hv, fun _ _ hq => hq⟩) | exact hv.elim
  case ix =>
    split at hv
    · rename_i he1 he2
      (try rw [he1, he2])
      unfold Ix at hv
      obtain ⟨h0, h1, a, ha, hv⟩ := hv
      refine ⟨_, hv, fun _ _ hq => ?_⟩
      unfold Ix
      exact ⟨h0, h1, a, ha, hq⟩
    · exact hv.elim
  case ixa =>
    split at hv
    · rename_i he1 he2
      (try rw [he1, he2])
      unfold Ix at hv
      obtain ⟨h0, h1, a, ha, hv⟩ := hv
      refine ⟨_, hv, fun _ _ hq => ?_⟩
      unfold Ix
      exact ⟨h0, h1, a, ha, hq⟩
    · exact hv.elim
  case sl =>
    split at hv
    · rename_i he1
      (try rw [he1])
      obtain ⟨n1, hv, g1⟩ := xInt_all hv
      obtain ⟨n2, hv, g2⟩ := xInt_all hv
      obtain ⟨n3, hv, g3⟩ := xInt_all hv
      unfold Sl at hv
      refine ⟨_, hv.2.2.2.2, fun _ _ hq => g1 _ (g2 _ (g3 _ ?_))⟩
      unfold Sl
      exact ⟨hv.1, hv.2.1, hv.2.2.1, hv.2.2.2.1, hq⟩
    · exact hv.elim
  case sla =>
    split at hv
    · rename_i he1
      (try rw [he1])
      obtain ⟨n1, hv, g1⟩ := xInt_all hv
      obtain ⟨n2, hv, g2⟩ := xInt_all hv
      obtain ⟨n3, hv, g3⟩ := xInt_all hv
      unfold Sl at hv
      refine ⟨_, hv.2.2.2.2, fun _ _ hq => g1 _ (g2 _ (g3 _ ?_))⟩
      unfold Sl
      exact ⟨hv.1, hv.2.1, hv.2.2.1, hv.2.2.2.1, hq⟩
    · exact hv.elim
  case len => split at hv <;> first | (rename_i he; (try rw [he]); exact ⟨_, hv, fun _ _ hq => hq⟩) | exact hv.elim
  case lens => split at hv <;> first | (rename_i he; (try rw [he]); exact ⟨_, hv, fun _ _ hq => hq⟩) | exact hv.elim
  case mm =>
    split at hv
    · rename_i he1 he2
      (try rw [he1, he2])
      split at hv <;> exact ⟨_, hv, fun _ _ hq => hq⟩
    · exact hv.elim
  case mm3 =>
    split at hv
    · rename_i he1 he2 he3
      (try rw [he1, he2, he3])
      split at hv <;> exact ⟨_, hv, fun _ _ hq => hq⟩
    · exact hv.elim
  case ex =>
    split at hv
    · rename_i he1
      (try rw [he1])
      split at hv
      · rename_i hn
        (try simp only [hn])
        exact ⟨_, hv, fun _ _ hq => hq⟩
      · exact hv.elim
    · exact hv.elim
  case fe =>
    split at hv
    · rename_i he1
      (try rw [he1])
      split at hv
      · split at hv
        · rename_i hn
          (try simp only [hn])
          exact ⟨_, hv, fun _ _ hq => hq⟩
        · exact hv.elim
      · exact ⟨_, hv, fun _ _ hq => hq⟩
    · exact hv.elim
  case bd =>
    obtain ⟨ds, h1, h2⟩ := fillL_all _ _ hv
    exact ⟨_, h1, fun _ _ hq => h2 _ hq⟩
  case bdn =>
    unfold Fil at hv ⊢
    obtain ⟨ds, h1, h2⟩ := fillL_all _ _ hv
    exact ⟨_, h1, fun _ _ hq => h2 _ hq⟩
  case s2a => split at hv <;> first | (rename_i he; (try rw [he]); unfold S2a at hv; refine ⟨_, hv.2, fun _ _ hq => ?_⟩; unfold S2a; exact ⟨hv.1, hq⟩) | exact hv.elim
  case cv => split at hv <;> first | (rename_i he; (try rw [he]); unfold Ar at hv; refine ⟨_, hv, fun _ _ hq => ?_⟩; unfold Ar; exact hq) | exact hv.elim

/-- The slots that an operand reads. -/
def xtm : X → List Nat
  | .t n => [n]
  | _ => []
/-- The slots that an operation reads (of a raw one it is not said). -/
def SO.tm : SO → Option (List Nat)
  | .mv x | .nil x | .fld x _ | .ld x | .ldn x _ | .not x | .neg x | .len x | .lens x | .bx _ x | .ex x _ | .fe x _ _ | .cv _ x | .mrk x | .s2a x _ => some (xtm x)
  | .st x v | .stn x v _ => some (xtm x ++ xtm v)
  | .ar _ x y | .bt _ x y | .dv _ x y | .sh _ x y | .cm _ x y | .mm _ x y => some (xtm x ++ xtm y)
  | .pk c a b => some (xtm c ++ (xtm a ++ xtm b))
  | .ix x i _ | .ixa x i _ _ => some (xtm x ++ xtm i)
  | .sl x lo hi mx _ | .sla x lo hi mx _ _ => some (xtm x ++ (lo.toList.flatMap xtm ++ (hi.toList.flatMap xtm ++ mx.toList.flatMap xtm)))
  | .call _ args => some (args.flatMap xtm)
  | .mm3 _ x y z => some (xtm x ++ (xtm y ++ xtm z))
  | .app x y _ _ _ _ => some (xtm x ++ xtm y)
  | .bs _ _ _ parts => some (parts.flatMap xtm)
  | .bd _ parts | .bdn _ parts => some (parts.flatMap fun p => xtm p.2.2)
  | .ms l c _ _ _ _ => some (xtm l ++ xtm c)
  | .al _ _ => some []
  | .raw _ _ => none

theorem ev_on {e e' : Env} {x : X} {ts : List Nat} (h : ∀ t ∈ ts, e.get t = e'.get t) (hx : ∀ t ∈ xtm x, t ∈ ts) : e.ev x = e'.ev x := by
  cases x <;> first | rfl | exact h _ (hx _ (by simp [xtm]))
theorem xInt_on {e e' : Env} {d : Int} {o : Option X} {ts : List Nat} (h : ∀ t ∈ ts, e.get t = e'.get t) (hx : ∀ t ∈ o.toList.flatMap xtm, t ∈ ts) (q : Int → Prop) : xInt e d o q = xInt e' d o q := by
  unfold xInt
  cases o with
  | none => rfl
  | some x => simp only [ev_on h (x := x) (fun t ht => hx t (by simpa using ht))]
theorem fillL_on {e e' : Env} {ts : List Nat} (h : ∀ t ∈ ts, e.get t = e'.get t) : ∀ (ps : List (Nat × Nat × X)) (cs : List Value) (q : List Value → Prop), (∀ t ∈ ps.flatMap (fun p => xtm p.2.2), t ∈ ts) → fillL e cs ps q = fillL e' cs ps q := by
  intro ps
  induction ps with
  | nil => intro cs q _; rfl
  | cons p ps ih =>
    obtain ⟨o, s, x⟩ := p
    intro cs q ht
    simp only [List.flatMap_cons, List.mem_append] at ht
    simp only [fillL, force_eq, ev_on h (x := x) (fun t hh => ht t (.inl hh)), ih _ _ (fun t hh => ht t (.inr hh))]
theorem map_on {e e' : Env} {ts : List Nat} (h : ∀ t ∈ ts, e.get t = e'.get t) (l : List X) (hx : ∀ t ∈ l.flatMap xtm, t ∈ ts) : l.map e.ev = l.map e'.ev :=
  List.map_congr_left fun x hm => ev_on h fun t ht => hx t (List.mem_flatMap.2 ⟨x, hm, ht⟩)
/-- An operation looks at the slots that it reads alone. -/
theorem vO_on {e e' : Env} {h : H} {k : Value → H → Prop} {x : SO} {ts : List Nat} (hx : x.tm = some ts) (he : ∀ t ∈ ts, e.get t = e'.get t) (hv : vO P e h k x) : vO P e' h k x := by
  have s : ∀ y : X, (∀ t ∈ xtm y, t ∈ ts) → e.ev y = e'.ev y := fun y hy => ev_on he hy
  cases x <;> simp only [SO.tm, Option.some.injEq, reduceCtorEq] at hx <;> (try subst hx) <;> simp only [vO] at hv ⊢
  case mv y => rw [← s y fun t h => h]; exact hv
  case nil y => rw [← s y fun t h => h]; exact hv
  case fld y _ => rw [← s y fun t h => h]; exact hv
  case ld y => rw [← s y fun t h => h]; exact hv
  case ldn y _ => rw [← s y fun t h => h]; exact hv
  case st y z => rw [← s y fun t h => by simp [h], ← s z fun t h => by simp [h]]; exact hv
  case stn y z _ => rw [← s y fun t h => by simp [h], ← s z fun t h => by simp [h]]; exact hv
  case ar _ y z => rw [← s y fun t h => by simp [h], ← s z fun t h => by simp [h]]; exact hv
  case bt _ y z => rw [← s y fun t h => by simp [h], ← s z fun t h => by simp [h]]; exact hv
  case dv _ y z => rw [← s y fun t h => by simp [h], ← s z fun t h => by simp [h]]; exact hv
  case sh _ y z => rw [← s y fun t h => by simp [h], ← s z fun t h => by simp [h]]; exact hv
  case cm _ y z => rw [← s y fun t h => by simp [h], ← s z fun t h => by simp [h]]; exact hv
  case not y => rw [← s y fun t h => h]; exact hv
  case neg y => rw [← s y fun t h => h]; exact hv
  case pk a b c => rw [← s a fun t h => by simp [h], ← s b fun t h => by simp [h], ← s c fun t h => by simp [h]]; exact hv
  case ix y z _ => rw [← s y fun t h => by simp [h], ← s z fun t h => by simp [h]]; exact hv
  case ixa y z _ _ => rw [← s y fun t h => by simp [h], ← s z fun t h => by simp [h]]; exact hv
  case sl y lo hi mx _ =>
    rw [← s y fun t h => by simp [h]]
    have e1 : ∀ d q, xInt e d lo q = xInt e' d lo q := fun d q => xInt_on he (fun t ht => by simp only [List.mem_append]; exact .inr (.inl ht)) q
    have e2 : ∀ d q, xInt e d hi q = xInt e' d hi q := fun d q => xInt_on he (fun t ht => by simp only [List.mem_append]; exact .inr (.inr (.inl ht))) q
    have e3 : ∀ d q, xInt e d mx q = xInt e' d mx q := fun d q => xInt_on he (fun t ht => by simp only [List.mem_append]; exact .inr (.inr (.inr ht))) q
    simp only [← e1, ← e2, ← e3]
    exact hv
  case sla y lo hi mx _ _ =>
    rw [← s y fun t h => by simp [h]]
    have e1 : ∀ d q, xInt e d lo q = xInt e' d lo q := fun d q => xInt_on he (fun t ht => by simp only [List.mem_append]; exact .inr (.inl ht)) q
    have e2 : ∀ d q, xInt e d hi q = xInt e' d hi q := fun d q => xInt_on he (fun t ht => by simp only [List.mem_append]; exact .inr (.inr (.inl ht))) q
    have e3 : ∀ d q, xInt e d mx q = xInt e' d mx q := fun d q => xInt_on he (fun t ht => by simp only [List.mem_append]; exact .inr (.inr (.inr ht))) q
    simp only [← e1, ← e2, ← e3]
    exact hv
  case call _ args => rw [← map_on he args fun t h => h]; exact hv
  case len y => rw [← s y fun t h => h]; exact hv
  case lens y => rw [← s y fun t h => h]; exact hv
  case mm _ y z => rw [← s y fun t h => by simp [h], ← s z fun t h => by simp [h]]; exact hv
  case mm3 _ a b c => rw [← s a fun t h => by simp [h], ← s b fun t h => by simp [h], ← s c fun t h => by simp [h]]; exact hv
  case app y z _ _ _ _ => rw [← s y fun t h => by simp [h], ← s z fun t h => by simp [h]]; exact hv
  case bs _ _ _ parts => rw [← map_on he parts fun t h => h]; exact hv
  case bd _ parts => rw [← fillL_on he parts _ _ fun t h => h]; exact hv
  case bdn _ parts => unfold Fil at *; rw [← fillL_on he parts _ _ fun t h => h]; exact hv
  case ms y z _ _ _ _ => rw [← s y fun t h => by simp [h], ← s z fun t h => by simp [h]]; exact hv
  case bx _ y => rw [← s y fun t h => h]; exact hv
  case al => exact hv
  case ex y _ => rw [← s y fun t h => h]; exact hv
  case fe y _ _ => rw [← s y fun t h => h]; exact hv
  case cv _ y => rw [← s y fun t h => h]; exact hv
  case mrk y => rw [← s y fun t h => h]; exact hv
  case s2a y _ => rw [← s y fun t h => h]; exact hv

theorem cellsAt_keepM {M : List Nat} {h h' : H} (ho : Only M h h') {a : Addr} (hn : a.block ∉ M) : ∀ (vs : List Value) (i : Nat), cellsAt h a i vs → cellsAt h' a i vs := by
  intro vs
  induction vs with
  | nil => intro i _; trivial
  | cons v r ih =>
    intro i hc
    have hb : (a.add i).block = a.block := by unfold Addr.add; split <;> rfl
    exact ⟨by rw [hcell_keep ho (hcell_lt hc.1) (by rw [hb]; exact hn)]; exact hc.1, ih _ hc.2⟩
theorem cellsAt_keep {h h' : H} (ho : Only [] h h') {a : Addr} : ∀ (vs : List Value) (i : Nat), cellsAt h a i vs → cellsAt h' a i vs := by
  intro vs
  induction vs with
  | nil => intro i _; trivial
  | cons v r ih =>
    intro i hc
    exact ⟨by rw [hcell_keep ho (hcell_lt hc.1) (by simp)]; exact hc.1, ih _ hc.2⟩
/-- What a still operation gives, it gives from every heap in which the old blocks are as they were. -/
theorem still_all {x : SO} (hp : x.still = true) (hv : vO P e h k x) : ∃ v, k v h ∧ ∀ h' (k' : Value → H → Prop), Only [] h h' → k' v h' → vO P e h' k' x := by
  cases hq : x.pure with
  | true =>
    obtain ⟨v, h1, h2⟩ := pure_all hq hv
    exact ⟨v, h1, fun h' k' _ hk => h2 h' k' hk⟩
  | false =>
    cases x <;> simp only [SO.pure, SO.still, reduceCtorEq] at hq hp
    case ld y =>
      simp only [vO] at hv ⊢
      split at hv
      · unfold Ld at hv
        obtain ⟨v, hc, hk⟩ := hv
        refine ⟨v, hk, fun h' k' ho hk' => ?_⟩
        unfold Ld
        exact ⟨v, by rw [hcell_keep ho (hcell_lt hc) (by simp)]; exact hc, hk'⟩
      · exact hv.elim
    case ldn y n =>
      simp only [vO] at hv ⊢
      split at hv
      · unfold LdN at hv
        obtain ⟨vs, hl, hc, hk⟩ := hv
        refine ⟨_, hk, fun h' k' ho hk' => ?_⟩
        unfold LdN
        exact ⟨vs, hl, cellsAt_keep ho vs 0 hc, hk'⟩
      · exact hv.elim
/-- The same, where some blocks may have changed, but not those that are read. -/
theorem stillM_all {M : List Nat} {x : SO} (hp : x.still = true) (hv : vM P M e h k x) : ∃ v, k v h ∧ ∀ h' (k' : Value → H → Prop), Only M h h' → k' v h' → vO P e h' k' x := by
  cases hq : x.pure with
  | true =>
    have hv' : vO P e h k x := by cases x <;> first | exact hv | (simp [SO.pure] at hq)
    obtain ⟨v, h1, h2⟩ := pure_all hq hv'
    exact ⟨v, h1, fun h' k' _ hk => h2 h' k' hk⟩
  | false =>
    cases x <;> simp only [SO.pure, SO.still, reduceCtorEq] at hq hp
    case ld y =>
      simp only [vM, vO] at hv ⊢
      split at hv
      · unfold LdM Ld at hv
        obtain ⟨hn, v, hc, hk⟩ := hv
        refine ⟨v, hk, fun h' k' ho hk' => ?_⟩
        unfold Ld
        exact ⟨v, by rw [hcell_keep ho (hcell_lt hc) hn]; exact hc, hk'⟩
      · exact hv.elim
    case ldn y n =>
      simp only [vM, vO] at hv ⊢
      split at hv
      · unfold LdNM LdN at hv
        obtain ⟨hn, vs, hl, hc, hk⟩ := hv
        refine ⟨_, hk, fun h' k' ho hk' => ?_⟩
        unfold LdN
        exact ⟨vs, hl, cellsAt_keepM ho hn vs 0 hc, hk'⟩
      · exact hv.elim
theorem vM_vO {M : List Nat} {x : SO} (hv : vM P M e h k x) : vO P e h k x := by
  cases x <;> try exact hv
  case ld y =>
    simp only [vM, vO] at hv ⊢
    split at hv
    · unfold LdM at hv; exact hv.2
    · exact hv
  case ldn y n =>
    simp only [vM, vO] at hv ⊢
    split at hv
    · unfold LdNM at hv; exact hv.2
    · exact hv
theorem vM_mono {M : List Nat} {x : SO} (hv : vM P M e h k x) (hk : ∀ v h', k v h' → k' v h') : vM P M e h k' x := by
  have plain : ∀ {x : SO}, vO P e h k x → vO P e h k' x := fun hv => vO_mono hv hk
  cases x
  case ld y =>
    simp only [vM] at hv ⊢
    split at hv
    · unfold LdM Ld at *; exact ⟨hv.1, hv.2.imp fun _ h => ⟨h.1, hk _ _ h.2⟩⟩
    · exact hv
  case ldn y m =>
    simp only [vM] at hv ⊢
    split at hv
    · unfold LdNM LdN at *; exact ⟨hv.1, hv.2.imp fun _ h => ⟨h.1, h.2.1, hk _ _ h.2.2⟩⟩
    · exact hv
  all_goals (unfold vM at hv ⊢; exact plain hv)
end
end Go.Proofs.YtiabgojnljfmhaaGreat.Ov
