/-
  WHAT IS SHOWN OF THE SMALL TEXT HOLDS OF THE CODE'S RUN: the whole. No condition: every statement is for every program.
-/
import Derived.Test.YtiabgojnljfmhaaGreatF
namespace Go.Proofs.YtiabgojnljfmhaaGreat.Ov
section
variable {st : Bool} {P : Program} {e : Env} {h : H} {k : Value → H → Prop}

theorem call_all {ty : TypeId} {c : Call} {s : SO} (hst : st = true → s.still = true) (hc : compCall P c ty = some s) (hv : vO P e h k s) : RawO st P (ρ e) (.call c) ty h k := by
  unfold compCall at hc
  split at hc
  · rename_i f h1
    split at hc
    · rename_i fn hf
      split at hc
      · rename_i hb
        injection hc with hc
        subst hc
        simp only [Bool.and_eq_true] at hb
        exact nonstill hst rfl (call_sound h1 hf hb.1 hb.2 hv)
      · injection hc with hc
        subst hc
        exact nonstill hst rfl (raw_out hv)
    · cases hc
  · rename_i x t h1 h2 h3
    split at hc
    · injection hc with hc
      subst hc
      exact len_sound h1 h2 h3 ‹_› hv
    · injection hc with hc
      subst hc
      exact lens_sound h1 h2 h3 ‹_› hv
    · injection hc with hc
      subst hc
      exact lena_sound h1 h2 h3 ‹_› hv
    · injection hc with hc
      subst hc
      exact nonstill hst rfl (raw_out hv)
  · rename_i x y h1 h2
    injection hc with hc
    subst hc
    exact mm_sound (mx := false) h1 h2 rfl hv
  · rename_i x y h1 h2
    injection hc with hc
    subst hc
    exact mm_sound (mx := true) h1 h2 rfl hv
  · rename_i x y z h1 h2
    injection hc with hc
    subst hc
    exact mm3_sound (mx := false) h1 h2 rfl hv
  · rename_i x y z h1 h2
    injection hc with hc
    subst hc
    exact mm3_sound (mx := true) h1 h2 rfl hv
  · rename_i x y t u h1 h2 h3
    split at hc
    · rename_i elem el2 hu hu2
      split at hc
      · rename_i i hi
        split at hc
        · rename_i z hz
          injection hc with hc
          subst hc
          exact nonstill hst rfl (app_sound h1 h2 h3 hu hu2 hi hz hv)
        · cases hc
      · cases hc
    · injection hc with hc
      subst hc
      exact nonstill hst rfl (raw_out hv)
  · injection hc with hc
    subst hc
    exact nonstill hst rfl (raw_out hv)

theorem bdn_bd {z : List Value} {ps : List (Nat × Nat × X)} (hv : vO P e h k (.bdn z ps)) : vO P e h k (.bd z ps) := by
  simp only [vO] at hv ⊢
  unfold Fil at hv
  exact hv
theorem op_all {op : Op} {ty : TypeId} {s : SO} (hst : st = true → s.still = true) (hc : compOp P op ty = some s) (hv : vO P e h k s) : RawO st P (ρ e) op ty h k := by
  unfold compOp at hc
  split at hc
  · injection hc with hc; subst hc; exact mv_sound (.inl rfl) hv
  · injection hc with hc; subst hc; exact mv_sound (.inr rfl) hv
  · injection hc with hc; subst hc; exact pk_sound hv
  · injection hc with hc; subst hc; exact nonstill hst rfl (bx_sound hv)
  · split at hc
    · split at hc
      · injection hc with hc; subst hc; exact nonstill hst rfl (al_sound ‹_› ‹_› hv)
      · cases hc
    · cases hc
  · split at hc
    · split at hc
      · split at hc
        · split at hc
          · rename_i hb
            injection hc with hc; subst hc
            simp only [Bool.and_eq_true] at hb
            exact nonstill hst rfl (bs_sound ‹_› ‹_› ‹_› hb.1.1 (Nat.eq_of_beq_eq_true hb.1.2) (Nat.le_of_ble_eq_true hb.2) hv)
          · injection hc with hc; subst hc; exact nonstill hst rfl (raw_out hv)
        · cases hc
      · cases hc
    · cases hc
  · split at hc
    · split at hc
      · split at hc
        · rename_i ps hps
          cases hbig : ps.any (fun p => Nat.ble 16 p.2.1) with
          | false =>
            rw [hbig, cond_false] at hc
            injection hc with hc; subst hc
            exact bd_sound ‹_› ‹_› ‹_› ‹_› hps hv
          | true =>
            rw [hbig, cond_true] at hc
            injection hc with hc; subst hc
            have hv' := bdn_bd hv
            exact bd_sound ‹_› ‹_› ‹_› ‹_› hps hv'
        · cases hc
      · cases hc
    · injection hc with hc; subst hc; exact nonstill hst rfl (raw_out hv)
  · split at hc
    · injection hc with hc; subst hc; exact ldn_sound ‹_› ‹_› hv
    · injection hc with hc; subst hc; exact ld_sound ‹_› hv
    · cases hc
  · split at hc
    · injection hc with hc; subst hc; exact nonstill hst rfl (stn_sound ‹_› hv)
    · split at hc
      · rename_i hb
        injection hc with hc; subst hc
        exact nonstill hst rfl (st_sound ‹_› (Nat.eq_of_beq_eq_true hb) hv)
      · cases hc
    · cases hc
  · injection hc with hc; subst hc; exact nil_sound hv
  · exact bin_sound hst hc hv
  · injection hc with hc; subst hc; exact not_sound hv
  · split at hc
    · injection hc with hc; subst hc; exact neg_sound hv
    · injection hc with hc; subst hc; exact nonstill hst rfl (raw_out hv)
  · split at hc
    · injection hc with hc; subst hc; exact s2a_sound ‹_› hv
    · injection hc with hc; subst hc; exact nonstill hst rfl (raw_out hv)
  · split at hc
    · injection hc with hc; subst hc; exact cv_sound ‹_› ‹_› hv
    · rename_i sl _ dl el h1 h2
      split at hc
      · rename_i h3
        cases hb : Nat.beq _ _ with
        | true =>
          rw [hb, cond_true] at hc
          injection hc with hc
          subst hc
          have := Nat.eq_of_beq_eq_true hb
          subst this
          exact nonstill hst rfl (mrk_sound h1 h2 h3 hv)
        | false =>
          rw [hb, cond_false] at hc
          injection hc with hc
          subst hc
          exact nonstill hst rfl (raw_out hv)
      · injection hc with hc; subst hc; exact nonstill hst rfl (raw_out hv)
    · injection hc with hc; subst hc; exact nonstill hst rfl (raw_out hv)
  · split at hc
    · split at hc
      · split at hc
        · split at hc
          · injection hc with hc; subst hc; exact nonstill hst rfl (raw_out hv)
          · rename_i hb
            injection hc with hc; subst hc
            exact fld_sound ‹_› ‹_› ‹_› (by intro h0; apply hb; rw [h0]; rfl) hv
        · cases hc
      · cases hc
    · cases hc
  · split at hc
    · split at hc
      · split at hc
        · injection hc with hc; subst hc; exact fe_sound (b := true) ‹_› ‹_› ‹_› ‹_› hv
        · rename_i i hb hi
          injection hc with hc; subst hc; exact fe_sound (b := false) ‹_› ‹_› hb hi hv
        · cases hc
      · cases hc
    · cases hc
  · split at hc
    · split at hc
      · injection hc with hc; subst hc; exact ix_sound ‹_› ‹_› hv
      · cases hc
    · split at hc
      · injection hc with hc; subst hc; exact ixa_sound ‹_› ‹_› hv
      · cases hc
    · cases hc
  · split at hc
    · split at hc
      · injection hc with hc; subst hc; exact sl_sound (mx := none) (.inl rfl) ‹_› ‹_› hv
      · cases hc
    · split at hc
      · injection hc with hc; subst hc; exact sla_sound (mx := none) (.inl rfl) ‹_› ‹_› hv
      · cases hc
    · injection hc with hc; subst hc; exact nonstill hst rfl (raw_out hv)
  · split at hc
    · split at hc
      · injection hc with hc; subst hc
        rename_i hi mx _ _ _ _ _ _
        exact sl_sound (hi := some hi) (mx := some mx) (.inr (by simp)) ‹_› ‹_› hv
      · cases hc
    · injection hc with hc; subst hc; exact nonstill hst rfl (raw_out hv)
  · split at hc
    · split at hc
      · split at hc
        · split at hc
          · rename_i hb
            injection hc with hc; subst hc
            exact nonstill hst rfl (ms_sound ‹_› ‹_› ‹_› (Nat.eq_of_beq_eq_true hb) hv)
          · cases hc
        · cases hc
      · cases hc
    · cases hc
  · injection hc with hc; subst hc; exact ex_sound hv
  · exact call_all hst hc hv
  all_goals first
    | (cases hc; done)
    | (injection hc with hc; subst hc; exact nonstill hst rfl (raw_out hv))
end
end Go.Proofs.YtiabgojnljfmhaaGreat.Ov
