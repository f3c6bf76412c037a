/-
  'vO' GROWS WITH WHAT IS ASKED BEHIND IT; and what a pure operation gives, it gives from every heap. No condition: every statement is for every program.
-/
import Derived.Test.YtaffgkgaoiolbaaB
namespace Go.Proofs.Ytaffgkgaoiolbaa.Ov
/-- Leaves the world as it is. -/
def SO.still : SO → Bool
  | .mv _ | .nil _ | .fld _ _ | .ld _ | .ldn _ _ | .ar _ _ _ | .bt _ _ _ | .dv _ _ _ | .sh _ _ _ | .cm _ _ _ | .not _ | .neg _ | .pk _ _ _ | .ix _ _ _ | .ixa _ _ _ _ | .sl _ _ _ _ _ | .sla _ _ _ _ _ _
  | .len _ | .lens _ | .mm _ _ _ | .mm3 _ _ _ _ | .ex _ _ | .fe _ _ _ | .cv _ _ => true
  | _ => false
/-- Does not look at the world. -/
def SO.pure : SO → Bool
  | .ld _ | .ldn _ _ => false
  | x => x.still
section
variable {P : Program} {e : Env} {h : H} {k k' : Value → H → Prop}

theorem stN_mono {a : Addr} {q q' : H → Prop} (hq : ∀ h, q h → q' h) : ∀ (vs : List Value) (i : Nat) (h : H), stN h a i vs q → stN h a i vs q' := by
  intro vs
  induction vs with
  | nil => intro i h hs; exact hq _ hs
  | cons v r ih =>
    intro i h hs
    simp only [stN] at hs ⊢
    unfold St at hs ⊢
    exact ⟨hs.1, hs.2.1, hs.2.2.1, ih _ _ hs.2.2.2⟩

theorem sized_mono {sz : Nat} {p p' : Prop} (hp : p → p') : ∀ vs : List Value, sized sz vs p → sized sz vs p' := by
  intro vs
  induction vs with
  | nil => exact hp
  | cons v r ih =>
    intro hs
    simp only [sized] at *
    cases hb : Nat.beq (cellsOf v).length sz with
    | false => rw [hb] at hs; exact hs.elim
    | true => rw [hb] at hs; exact ih hs
theorem fillL_mono {q q' : List Value → Prop} (hq : ∀ l, q l → q' l) : ∀ (ps : List (Nat × Nat × X)) (cs : List Value), fillL e cs ps q → fillL e cs ps q' := by
  intro ps
  induction ps with
  | nil => intro cs hs; exact hq _ hs
  | cons p ps ih =>
    obtain ⟨o, s, x⟩ := p
    intro cs hs
    simp only [fillL, force_eq] at *
    cases hb : (Nat.beq (cellsOf (e.ev x)).length s && Nat.ble (o + s) cs.length) with
    | false => rw [hb] at hs; exact hs.elim
    | true => rw [hb] at hs; exact ih _ hs
theorem xInt_mono {d : Int} {o : Option X} {q q' : Int → Prop} (hq : ∀ n, q n → q' n) (hs : xInt e d o q) : xInt e d o q' := by
  unfold xInt at *
  cases o with
  | none => exact hq _ hs
  | some x =>
    simp only [] at hs ⊢
    cases hx : e.ev x <;> rw [hx] at hs <;> first | exact hs.elim | exact hq _ hs
theorem kEq_mono {a b : IntKind} {p p' : Prop} (hp : p → p') (hk : kEq a b p) : kEq a b p' := by
  cases a <;> cases b <;> first | exact hp hk | exact hk.elim

theorem kEq_in {a : IntKind} {p : Prop} (hp : p) : kEq a a p := by cases a <;> exact hp

theorem vO_mono {x : SO} (hv : vO P e h k x) (hk : ∀ v h', k v h' → k' v h') : vO P e h k' x := by
  cases x <;> simp only [vO, force_eq, forceL_eq] at hv ⊢
  case mv => exact hk _ _ hv
  case nil => split at hv <;> first | exact hk _ _ hv | exact hv.elim
  case fld => split at hv <;> first | exact hk _ _ hv | exact hv.elim
  case ld => split at hv <;> first | exact hv.elim | (unfold Ld at *; exact hv.imp fun _ h => ⟨h.1, hk _ _ h.2⟩)
  case ldn => split at hv <;> first | exact hv.elim | (unfold LdN at *; exact hv.imp fun _ h => ⟨h.1, h.2.1, hk _ _ h.2.2⟩)
  case st => split at hv <;> first | exact hv.elim | (unfold St at *; exact ⟨hv.1, hv.2.1, hv.2.2.1, hk _ _ hv.2.2.2⟩)
  case stn => split at hv <;> first | exact hv.elim | (unfold StN at *; exact ⟨hv.1, stN_mono (fun _ => hk _ _) _ _ _ hv.2⟩)
  case ar => split at hv <;> first | exact hv.elim | (refine kEq_mono (fun hv => ?_) hv; split at hv <;> first | exact hv.elim | (unfold Ar at *; exact hk _ _ hv))
  case bt => split at hv <;> first | exact hv.elim | (refine kEq_mono (fun hv => ?_) hv; split at hv <;> first | exact hv.elim | (unfold Bits at *; exact hk _ _ hv))
  case dv => split at hv <;> first | exact hv.elim | (refine kEq_mono (fun hv => ?_) hv; split at hv <;> first | exact hv.elim | (unfold Quo at *; exact ⟨hv.1, hk _ _ hv.2⟩) | (unfold Rem at *; exact ⟨hv.1, hk _ _ hv.2⟩))
  case sh => split at hv <;> first | exact hv.elim | (split at hv <;> first | exact hv.elim | (unfold Shl at *; exact ⟨hv.1, hk _ _ hv.2⟩) | (unfold Shr at *; exact ⟨hv.1, hk _ _ hv.2⟩))
  case cm => split at hv <;> first | exact hv.elim | (refine kEq_mono (fun hv => ?_) hv; split at hv <;> first | exact hv.elim | (unfold CLt at *; exact hk _ _ hv) | (unfold CLe at *; exact hk _ _ hv) | (unfold CEq at *; exact hk _ _ hv) | (unfold CNe at *; exact hk _ _ hv))
  case not => split at hv <;> first | exact hk _ _ hv | exact hv.elim
  case neg => split at hv <;> first | exact hv.elim | (unfold Ar at *; exact hk _ _ hv)
  case pk => split at hv <;> first | exact hk _ _ hv | exact hv.elim
  case ix => split at hv <;> first | exact hv.elim | (unfold Ix at *; exact ⟨hv.1, hv.2.1, hv.2.2.imp fun _ h => ⟨h.1, hk _ _ h.2⟩⟩)
  case ixa => split at hv <;> first | exact hv.elim | (unfold Ix at *; exact ⟨hv.1, hv.2.1, hv.2.2.imp fun _ h => ⟨h.1, hk _ _ h.2⟩⟩)
  case sl => split at hv <;> first | exact hv.elim | exact xInt_mono (fun _ => xInt_mono fun _ => xInt_mono fun _ h => by unfold Sl at *; exact ⟨h.1, h.2.1, h.2.2.1, h.2.2.2.1, hk _ _ h.2.2.2.2⟩) hv
  case sla => split at hv <;> first | exact hv.elim | exact xInt_mono (fun _ => xInt_mono fun _ => xInt_mono fun _ h => by unfold Sl at *; exact ⟨h.1, h.2.1, h.2.2.1, h.2.2.2.1, hk _ _ h.2.2.2.2⟩) hv
  case call => exact hv.mono hk
  case len => split at hv <;> first | exact hk _ _ hv | exact hv.elim
  case lens => split at hv <;> first | exact hk _ _ hv | exact hv.elim
  case mm => split at hv <;> first | exact hv.elim | (split at hv <;> exact hk _ _ hv)
  case mm3 => split at hv <;> first | exact hv.elim | (split at hv <;> exact hk _ _ hv)
  case app =>
    split at hv
    · unfold App at *
      obtain ⟨new, h1, h2, h3⟩ := hv
      refine ⟨new, h1, fun hle => ?_, fun hlt => ?_⟩
      · have := h2 hle
        split at this
        · exact hk _ _ this
        · exact stN_mono (fun _ => hk _ _) _ _ _ this
      · obtain ⟨a, b, old, c, d⟩ := h3 hlt
        exact ⟨a, b, old, c, fun nc hnc => hk _ _ (d nc hnc)⟩
    · exact hv.elim
  case bs => exact sized_mono (fun h => by unfold New at *; exact hk _ _ h) _ hv
  case bd => exact fillL_mono (fun _ => hk _ _) _ _ hv
  case ms =>
    split at hv
    · unfold Mk at *
      exact ⟨hv.1, hv.2.1, hv.2.2.1, hv.2.2.2.1, hk _ _ hv.2.2.2.2⟩
    · exact hv.elim
  case bx => unfold New at *; exact hk _ _ hv
  case al => unfold New at *; exact hk _ _ hv
  case ex => split at hv <;> first | exact hv.elim | (split at hv <;> first | exact hk _ _ hv | exact hv.elim)
  case fe => split at hv <;> first | exact hv.elim | (split at hv <;> first | exact hk _ _ hv | (split at hv <;> first | exact hk _ _ hv | exact hv.elim))
  case cv => split at hv <;> first | exact hv.elim | (unfold Ar at *; exact hk _ _ hv)
  case raw =>
    unfold Raw RawO at *
    refine hv.mono fun nx h' hn => ?_
    cases nx <;> simp only [okN] at * <;> first | exact hk _ _ hn | exact ⟨hn.1, hk _ _ hn.2⟩ | exact ⟨hn.1, hn.2.mono hk⟩

theorem xInt_all {d : Int} {o : Option X} {q : Int → Prop} (hs : xInt e d o q) : ∃ n, q n ∧ ∀ q' : Int → Prop, q' n → xInt e d o q' := by
  unfold xInt at *
  cases o with
  | none => exact ⟨d, hs, fun _ h => h⟩
  | some x =>
    simp only [] at hs ⊢
    cases hx : e.ev x <;> rw [hx] at hs <;> first | exact hs.elim | exact ⟨_, hs, fun _ h => h⟩

/-- What a pure operation gives, it gives from every heap. -/
theorem pure_all {x : SO} (hp : x.pure = true) (hv : vO P e h k x) : ∃ v, k v h ∧ ∀ h', vO P e h' (fun v' _ => v' = v) x := by
  cases x <;> first | (simp [SO.pure, SO.still] at hp; done) | skip
  all_goals simp only [vO, force_eq, forceL_eq] at hv ⊢
  case mv => exact ⟨_, hv, fun _ => rfl⟩
  case nil => split at hv <;> first | (rename_i he; (try rw [he]); exact ⟨_, hv, fun _ => rfl⟩) | exact hv.elim
  case fld => split at hv <;> first | (rename_i he; (try rw [he]); exact ⟨_, hv, fun _ => rfl⟩) | exact hv.elim
  case ar =>
    split at hv
    · rename_i he1 he2
      (try rw [he1, he2])
      have hw := kEq_out hv
      clear hv
      obtain ⟨rfl, hv⟩ := hw
      split at hv <;> first | exact hv.elim | (unfold Ar at hv; refine ⟨_, hv, fun _ => ?_⟩; refine kEq_in ?_; unfold Ar; rfl)
    · exact hv.elim
  case bt =>
    split at hv
    · rename_i he1 he2
      (try rw [he1, he2])
      have hw := kEq_out hv
      clear hv
      obtain ⟨rfl, hv⟩ := hw
      split at hv <;> first | exact hv.elim | (unfold Bits at hv; refine ⟨_, hv, fun _ => ?_⟩; refine kEq_in ?_; unfold Bits; rfl)
    · exact hv.elim
  case dv =>
    split at hv
    · rename_i he1 he2
      (try rw [he1, he2])
      have hw := kEq_out hv
      clear hv
      obtain ⟨rfl, hv⟩ := hw
      split at hv <;> first | exact hv.elim | (unfold Quo at hv; refine ⟨_, hv.2, fun _ => ?_⟩; refine kEq_in ?_; unfold Quo; exact ⟨hv.1, rfl⟩) | (unfold Rem at hv; refine ⟨_, hv.2, fun _ => ?_⟩; refine kEq_in ?_; unfold Rem; exact ⟨hv.1, rfl⟩)
    · exact hv.elim
  case sh =>
    split at hv
    · rename_i he1 he2
      (try rw [he1, he2])
      split at hv <;> first | exact hv.elim | (unfold Shl at hv; refine ⟨_, hv.2, fun _ => ?_⟩; unfold Shl; exact ⟨hv.1, rfl⟩) | (unfold Shr at hv; refine ⟨_, hv.2, fun _ => ?_⟩; unfold Shr; exact ⟨hv.1, rfl⟩)
    · exact hv.elim
  case cm =>
    split at hv
    · rename_i he1 he2
      (try rw [he1, he2])
      have hw := kEq_out hv
      clear hv
      obtain ⟨rfl, hv⟩ := hw
      split at hv <;> first
        | exact hv.elim
        | (unfold CLt at hv; refine ⟨_, hv, fun _ => ?_⟩; refine kEq_in ?_; unfold CLt; rfl)
        | (unfold CLe at hv; refine ⟨_, hv, fun _ => ?_⟩; refine kEq_in ?_; unfold CLe; rfl)
        | (unfold CEq at hv; refine ⟨_, hv, fun _ => ?_⟩; refine kEq_in ?_; unfold CEq; rfl)
        | (unfold CNe at hv; refine ⟨_, hv, fun _ => ?_⟩; refine kEq_in ?_; unfold CNe; rfl)
    · exact hv.elim
  case not => split at hv <;> first | (rename_i he; (try rw [he]); exact ⟨_, hv, fun _ => rfl⟩) | exact hv.elim
  case neg => split at hv <;> first | (rename_i he; (try rw [he]); unfold Ar at hv; refine ⟨_, hv, fun _ => ?_⟩; unfold Ar; rfl) | exact hv.elim
  case pk => split at hv <;> first | (rename_i he; (try rw [he]); exact ⟨_, hv, fun _ => rfl⟩) | exact hv.elim
  case ix =>
    split at hv
    · rename_i he1 he2
      (try rw [he1, he2])
      unfold Ix at hv
      obtain ⟨h0, h1, a, ha, hv⟩ := hv
      refine ⟨_, hv, fun _ => ?_⟩
      unfold Ix
      exact ⟨h0, h1, a, ha, rfl⟩
    · exact hv.elim
  case ixa =>
    split at hv
    · rename_i he1 he2
      (try rw [he1, he2])
      unfold Ix at hv
      obtain ⟨h0, h1, a, ha, hv⟩ := hv
      refine ⟨_, hv, fun _ => ?_⟩
      unfold Ix
      exact ⟨h0, h1, a, ha, rfl⟩
    · exact hv.elim
  case sl =>
    split at hv
    · rename_i he1
      (try rw [he1])
      obtain ⟨n1, hv, g1⟩ := xInt_all hv
      obtain ⟨n2, hv, g2⟩ := xInt_all hv
      obtain ⟨n3, hv, g3⟩ := xInt_all hv
      unfold Sl at hv
      refine ⟨_, hv.2.2.2.2, fun _ => g1 _ (g2 _ (g3 _ ?_))⟩
      unfold Sl
      exact ⟨hv.1, hv.2.1, hv.2.2.1, hv.2.2.2.1, rfl⟩
    · exact hv.elim
  case sla =>
    split at hv
    · rename_i he1
      (try rw [he1])
      obtain ⟨n1, hv, g1⟩ := xInt_all hv
      obtain ⟨n2, hv, g2⟩ := xInt_all hv
      obtain ⟨n3, hv, g3⟩ := xInt_all hv
      unfold Sl at hv
      refine ⟨_, hv.2.2.2.2, fun _ => g1 _ (g2 _ (g3 _ ?_))⟩
      unfold Sl
      exact ⟨hv.1, hv.2.1, hv.2.2.1, hv.2.2.2.1, rfl⟩
    · exact hv.elim
  case len => split at hv <;> first | (rename_i he; (try rw [he]); exact ⟨_, hv, fun _ => rfl⟩) | exact hv.elim
  case lens => split at hv <;> first | (rename_i he; (try rw [he]); exact ⟨_, hv, fun _ => rfl⟩) | exact hv.elim
  case mm =>
    split at hv
    · rename_i he1 he2
      (try rw [he1, he2])
      split at hv <;> exact ⟨_, hv, fun _ => rfl⟩
    · exact hv.elim
  case mm3 =>
    split at hv
    · rename_i he1 he2 he3
      (try rw [he1, he2, he3])
      split at hv <;> exact ⟨_, hv, fun _ => rfl⟩
    · exact hv.elim
  case ex =>
    split at hv
    · rename_i he1
      (try rw [he1])
      split at hv
      · rename_i hn
        (try simp only [hn])
        exact ⟨_, hv, fun _ => rfl⟩
      · exact hv.elim
    · exact hv.elim
  case fe =>
    split at hv
    · rename_i he1
      (try rw [he1])
      split at hv
      · split at hv
        · rename_i hn
          (try simp only [hn])
          exact ⟨_, hv, fun _ => rfl⟩
        · exact hv.elim
      · exact ⟨_, hv, fun _ => rfl⟩
    · exact hv.elim
  case cv => split at hv <;> first | (rename_i he; (try rw [he]); unfold Ar at hv; refine ⟨_, hv, fun _ => ?_⟩; unfold Ar; rfl) | exact hv.elim

end
end Go.Proofs.Ytaffgkgaoiolbaa.Ov
