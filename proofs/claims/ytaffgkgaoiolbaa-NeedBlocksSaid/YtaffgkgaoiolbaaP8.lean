/-
  WHAT frame.digits AND frame.Encode DO. No condition beyond each statement's own.
-/
import Derived.Test.YtaffgkgaoiolbaaP7
namespace Go.Proofs.Ytaffgkgaoiolbaa.Ov.W

/-- A frame of a kind. -/
def FrameOf (kind : Nat) (xs : List Int) (l : List Bool) : Prop :=
  ∃ body, l = nb 8 kind ++ nb 8 xs.length ++ body ∧
    ((kind = 0 ∧ (∀ x ∈ xs, x = xs.getD 0 0) ∧ body = smp (xs.take 1)) ∨
     (kind = 1 ∧ body = smp xs) ∨
     (2 ≤ kind ∧ kind ≤ 6 ∧ kind - 2 ≤ xs.length ∧ ∃ rb, ResB (resF xs (kind - 2) (fixC ((kind : Int) - 2)) (xs.length - (kind - 2))) rb ∧ body = smp (xs.take (kind - 2)) ++ rb) ∨
     (7 ≤ kind ∧ kind ≤ 18 ∧ kind - 6 < xs.length ∧ ∃ cs rb, mayL cs ∧ cs.length = kind - 6 ∧ ResB (resL xs cs (xs.length - (kind - 6))) rb ∧ body = smp (xs.take (kind - 6)) ++ cfs cs ++ rb))

def Fresh (h h' : H) (p : Nat) (l : List Bool) : Prop := ∃ W, Wr h' p W l ∧ Only [] h h' ∧ ∀ b ∈ W, h.size ≤ b
theorem Fresh.of {h h1 h2 : H} {p : Nat} {W : List Nat} {l : List Bool} (ho : Only [] h h1) (hf : ∀ b ∈ W, h.size ≤ b) (hu : WrUp h1 p W l h2) : Fresh h h2 p l := by
  obtain ⟨W2, hw, ho2, hb2⟩ := hu
  exact ⟨W2, hw, ho.trans' ho2 fun x hx => .inr (hf x hx), fun b hb => (hb2 b hb).elim (hf b) fun h' => Nat.le_trans ho.size h'⟩
theorem Fresh.keep {h h1 h2 : H} {p : Nat} {l : List Bool} (hf : Fresh h h1 p l) (ho : Only [] h1 h2) : Fresh h h2 p l := by
  obtain ⟨W, hw, ho1, hb⟩ := hf
  exact ⟨W, hw.keep ho (by simp), ho1.trans ho, hb⟩

theorem digits_spec (h : H) (base : Option Addr) (n c : Nat) (xs : List Int) (kind : Nat) (hr : Ints h base n xs) (hnc : n ≤ c) (hk : chk xs = 0) (hn : 1 ≤ n) (hkd : kind ≤ 18) :
    Fn Pg 18 #[.int .i64 kind, .slice base n c] h fun v h' => ∃ (q : Option Addr) (b : Bool), v = .tuple #[.pointer q, .bool b] ∧ Only [] h h' ∧ (kind = 1 → b = true) ∧
      (b = true → ∃ p l, q = some ⟨p, 0, none⟩ ∧ Fresh h h' p l ∧ FrameOf kind xs l ∧ l.length ≤ 1000000) := by
  have hln := hr.1
  obtain ⟨hok, h64⟩ := chk_ok hk
  have hlt := Rds.lt hr.2
  refine g18 (args := [_, _]) ?_
  refine (NewWriter_spec h).use ?_
  rintro v h1 ⟨p, rfl, hw1, ho1, hp1⟩
  refine (Put_spec h1 p _ _ kind 8 hw1 (by simp) (by omega) (by omega)).use ?_
  rintro v h2 ⟨rfl, hu2⟩
  obtain ⟨W2, hw2, ho2, hf2⟩ := Fresh.of ho1 (by simpa using hp1) hu2
  refine (Put_spec h2 p W2 _ n 8 hw2 (by simp [nb_length]) (by omega) (by omega)).use ?_
  rintro v h3 ⟨rfl, hu3⟩
  obtain ⟨W3, hw3, ho3, hf3⟩ := Fresh.of ho2 hf2 hu3
  rw [show (8 : Int).toNat = 8 from rfl, List.nil_append] at hw3
  have hlen : (nb 8 (kind : Int) ++ nb 8 (n : Int)).length = 16 := by simp [nb_length]
  have hr3 := hr.keep0 ho3
  have hd3 : ∀ b ∈ blks base, b ∉ W3 := fun b hb hm => by have := hlt b hb; have := hf3 b hm; omega
  have no : ∀ h' : H, Only [] h h' → kind ≠ 1 → ∃ (q : Option Addr) (b : Bool), (Value.tuple #[.pointer none, .bool false]) = .tuple #[.pointer q, .bool b] ∧ Only [] h h' ∧ (kind = 1 → b = true) ∧
      (b = true → ∃ p l, q = some ⟨p, 0, none⟩ ∧ Fresh h h' p l ∧ FrameOf kind xs l ∧ l.length ≤ 1000000) := fun h' ho h1 => ⟨none, false, rfl, ho, fun h => absurd h h1, by simp⟩
  refine CEq.mk (fun hz => ?_) (fun hz => ?_)
  · have hz' : kind = 0 := by omega
    refine LoopH.mk (σ := Nat) (fun i => [(25, .int .i64 i)]) (fun i h4 => i ≤ n ∧ (∀ x ∈ xs.take i, x = xs.getD 0 0) ∧ h4 = h3) (fun i _ => n - i) 0 ⟨rfl, trivial⟩ ⟨by omega, by simp, rfl⟩ ?_
    rintro i h4 g ⟨hi, hx, rfl⟩
    refine CLt.mk (fun hlt => ?_) (fun hge => ?_)
    · refine Ix.num hr3 (by omega) (by omega) fun a ha => ?_
      refine Ld.mk ha ?_
      refine Ix.num hr3 (by omega) (by omega) fun a ha => ?_
      refine Ld.mk ha ?_
      rw [show ((i : Int)).toNat = i from by omega, show (0 : Int).toNat = 0 from rfl]
      refine CNe.mk (fun hne => no _ ho3 (by omega)) (fun heq => ?_)
      refine Ar.fit64 (by omega) ?_
      refine ⟨i + 1, ⟨rfl, trivial⟩, ⟨by omega, ?_, rfl⟩, by omega⟩
      rw [take_getD (by omega)]
      intro x hx'
      rcases List.mem_append.1 hx' with h7 | h7
      · exact hx x h7
      · rw [List.mem_singleton.1 h7]; exact heq
    · rw [List.take_of_length_le (by omega)] at hx
      refine Sl.pre (by omega) (by omega) ?_
      refine (samples_spec h4 p W3 _ base 1 c (xs.take 1) hw3 (hr3.take (by omega)) hd3 (fun x hx => hok x (List.mem_of_mem_take hx)) (by omega)).use ?_
      rintro v h5 ⟨rfl, hu5⟩
      have hfr := Fresh.of ho3 hf3 hu5
      refine ⟨_, true, rfl, hfr.choose_spec.2.1, fun _ => rfl, fun _ => ⟨p, _, rfl, hfr, ⟨smp (xs.take 1), by rw [hln], .inl ⟨hz', hx, rfl⟩⟩, ?_⟩⟩
      have := smp_len (xs.take 1)
      simp only [List.length_append, List.length_take] at this hlen ⊢
      omega
  refine CEq.mk (fun h1k => ?_) (fun h1k => ?_)
  · have h1' : kind = 1 := by omega
    refine (samples_spec h3 p W3 _ base n c xs hw3 hr3 hd3 hok (by omega)).use ?_
    rintro v h5 ⟨rfl, hu5⟩
    have hfr := Fresh.of ho3 hf3 hu5
    refine ⟨_, true, rfl, hfr.choose_spec.2.1, fun _ => rfl, fun _ => ⟨p, _, rfl, hfr, ⟨smp xs, by rw [hln], .inr (.inl ⟨h1', rfl⟩)⟩, ?_⟩⟩
    have := smp_len xs
    simp only [List.length_append] at this hlen ⊢
    omega
  refine CLe.mk (fun h2k => ?_) (fun h2k => by omega)
  refine CLe.mk (fun h6k => ?_) (fun h6k => ?_)
  · refine Ar.fit64 (by omega) ?_
    refine (FRes_spec h3 base n c xs ((kind : Int) - 2) hr3 hnc (by omega)).use ?_
    rintro v h4 ⟨ho4, hv⟩
    rcases hv with ⟨hno, rfl⟩ | ⟨_, _, _, hc, rfl⟩ | ⟨q1, q2, q3, q4, b1, n1, c1, rfl, hown⟩
    · refine CNe.t (by decide) ?_
      exact no _ (ho3.trans ho4) (by omega)
    · exact absurd hk hc
    refine CNe.f rfl ?_
    refine Sl.pre (by omega) (by omega) ?_
    rw [show ((kind : Int) - 2).toNat = kind - 2 from by omega] at hown ⊢
    refine (samples_spec h4 p W3 _ base (kind - 2) c (xs.take (kind - 2)) (hw3.keep ho4 (by simp)) ((hr3.keep0 ho4).take (by omega)) hd3 (fun x hx => hok x (List.mem_of_mem_take hx)) (by omega)).use ?_
    rintro v h5 ⟨rfl, hu5⟩
    obtain ⟨W5, hw5, ho5, hf5⟩ := Fresh.of (ho3.trans ho4) hf3 hu5
    have hl2 := hown.nums.1
    simp only [resF, List.length_map, List.length_range] at hl2
    have hr5 : Ints h5 b1 n1 _ := hown.nums.keep (hu5.choose_spec.2.1) fun x hx hm => by have := hown.lo x hx; have := hw3.lt x hm; omega
    have hs := smp_len (xs.take (kind - 2))
    rw [List.length_take] at hs
    refine (residuals_spec h5 p W5 _ b1 n1 c1 _ hw5 hr5 (by rw [List.length_append]; omega)).use ?_
    rintro v h6 ⟨b, l', rfl, hu6, hres⟩
    have hfr := Fresh.of ho5 hf5 hu6
    refine ⟨_, b, by cases b <;> rfl, hfr.choose_spec.2.1, fun h => by omega, fun hb => ⟨p, _, rfl, hfr, ⟨smp (xs.take (kind - 2)) ++ l', by rw [hln]; simp only [List.append_assoc], .inr (.inr (.inl ⟨by omega, by omega, by omega, l', ?_, rfl⟩))⟩, ?_⟩⟩
    · have := hres hb
      rwa [hln]
    · obtain ⟨k, hk0, hk1, hk2, hk3⟩ := hres hb
      have := rcs_len (resF xs (kind - 2) (fixC ((kind : Int) - 2)) (n - (kind - 2))) hk1
      have := congrArg List.length hk3
      simp only [List.length_append, nb_length, resF, List.length_map, List.length_range] at *
      omega
  refine CLt.mk (fun h7k => ?_) (fun h7k => by omega)
  refine CLe.t (by omega) ?_
  refine Ar.fit64 (by omega) ?_
  have hko : (kind : Int) - 6 = ((kind - 6 : Nat) : Int) := by omega
  rw [hko]
  refine (predicted_spec h3 p W3 _ base n c xs (kind - 6) hw3 hr3 hd3 hnc hk (by omega) (by omega)).use ?_
  rintro v h4 ⟨b, l', rfl, hu4, hres⟩
  have hfr := Fresh.of ho3 hf3 hu4
  refine ⟨_, b, by cases b <;> rfl, hfr.choose_spec.2.1, fun h => by omega, fun hb => ?_⟩
  obtain ⟨hon, cs, rb, hm, hcl, hrb, rfl⟩ := hres hb
  refine ⟨p, _, rfl, hfr, ⟨_, by rw [hln], .inr (.inr (.inr ⟨by omega, by omega, by omega, cs, rb, hm, hcl, by rw [hln]; exact hrb, rfl⟩))⟩, ?_⟩
  obtain ⟨k, hk0, hk1, hk2, hk3⟩ := hrb
  have h1' := rcs_len (resL xs cs (n - (kind - 6))) hk1
  have h2' := congrArg List.length hk3
  have h3' := smp_len (xs.take (kind - 6))
  have h4' := cfs_len cs
  simp only [List.length_append, nb_length, resL, List.length_map, List.length_range, List.length_take] at *
  omega

theorem Encode_spec (h : H) (base : Option Addr) (n c : Nat) (xs : List Int) (hr : Ints h base n xs) (hnc : n ≤ c) (hn : 1 ≤ n) (hk : chk xs = 0) :
    Fn Pg 15 #[.slice base n c] h fun v h' => Only [] h h' ∧ ∃ b1 n1 c1, ∃ (bs : List Int) (kind : Nat) (l : List Bool), v = .tuple #[.slice b1 n1 c1, .int .i64 0] ∧ OwnS h' h.size b1 n1 c1 1 (bs.map (.int .u8)) ∧ BitsOf bs l ∧ FrameOf kind xs l ∧ kind ≤ 18 ∧ l.length ≤ 16 + 24 * n := by
  have hln := hr.1
  obtain ⟨hok, h64⟩ := chk_ok hk
  refine g15 (args := [_]) ?_
  refine CLt.f (by omega) ?_
  refine CLt.f (by omega) ?_
  refine (Check_spec h base n c xs hr (by omega)).use ?_
  rintro v h1' ⟨rfl, rfl⟩
  rw [hk]
  refine CNe.f rfl ?_
  refine LoopH.mk (σ := Nat × Option Addr) (fun (i, q) => [(22, .int .i64 i), (5, .pointer q)])
    (fun (i, q) h2 => i ≤ 19 ∧ Only [] h1' h2 ∧ ((q = none ∧ i ≤ 1) ∨ ∃ p l kd, q = some ⟨p, 0, none⟩ ∧ Fresh h1' h2 p l ∧ kd ≤ 18 ∧ FrameOf kd xs l ∧ l.length ≤ 1000000 ∧ (2 ≤ i → l.length ≤ 16 + 24 * n))) (fun (i, _) _ => 19 - i) (0, none) ⟨rfl, rfl, trivial⟩ ⟨by omega, Only.refl _ _, .inl ⟨rfl, by omega⟩⟩ ?_
  rintro ⟨i, q⟩ h2 g ⟨hi, ho2, hq⟩
  refine CLt.mk (fun hlt => ?_) (fun hge => ?_)
  · refine (digits_spec h2 base n c xs i (hr.keep0 ho2) hnc hk hn (by omega)).use ?_
    rintro v h3 ⟨q3, b, rfl, ho3, h1k, hb⟩
    have ho := ho2.trans ho3
    have fr : ∀ {p : Nat} {l : List Bool}, Fresh h2 h3 p l → Fresh h1' h3 p l := fun ⟨W, a, b, d⟩ => ⟨W, a, ho, fun x hx => Nat.le_trans ho2.size (d x hx)⟩
    have vb : ∀ {l : List Bool}, FrameOf 1 xs l → l.length = 16 + 24 * n := by
      rintro l ⟨body, rfl, h⟩
      rcases h with h | h | h | h
      · omega
      · obtain ⟨_, rfl⟩ := h
        have := smp_len xs
        simp only [List.length_append, nb_length, this]
        omega
      · omega
      · omega
    cases b with
    | false =>
      refine Ar.fit64 (by omega) ?_
      refine ⟨(i + 1, q), ⟨rfl, rfl, trivial⟩, ⟨by omega, ho, ?_⟩, by show 19 - (i + 1) < 19 - i; omega⟩
      have hi1 : i ≠ 1 := fun h => by have := h1k h; cases this
      rcases hq with ⟨hq, hi⟩ | ⟨p, l, kd, hq, hf, hkd, hfo, hll, hl2⟩
      · exact .inl ⟨hq, by omega⟩
      · refine .inr ⟨p, l, kd, hq, hf.keep ho3, hkd, hfo, hll, fun _ => ?_⟩
        exact hl2 (by omega)
    | true =>
      obtain ⟨p3, l3, rfl, hf3, hfo3, hll3⟩ := hb rfl
      have hf3' := fr hf3
      rcases hq with ⟨rfl, hi1⟩ | ⟨p, l, kd, rfl, hf, hkd, hfo, hll, hl2⟩
      · refine Raw.nilp (by kernel_rfl) rfl ?_
        refine Ar.fit64 (by omega) ?_
        refine ⟨(i + 1, _), ⟨rfl, rfl, trivial⟩, ⟨by omega, ho, .inr ⟨p3, l3, i, rfl, hf3', by omega, hfo3, hll3, fun h2i => ?_⟩⟩, by show 19 - (i + 1) < 19 - i; omega⟩
        have : i = 1 := by omega
        subst this
        rw [vb hfo3]
        exact Nat.le_refl _
      · refine Raw.nilp (by kernel_rfl) rfl ?_
        have hf' := hf.keep ho3
        obtain ⟨W3, hw3, _, _⟩ := hf3'
        obtain ⟨W, hw, _, _⟩ := hf'
        refine (Len_spec h3 p3 W3 l3 hw3).use ?_
        rintro v h4 ⟨rfl, rfl⟩
        refine (Len_spec h4 p W l hw).use ?_
        rintro v h5 ⟨rfl, rfl⟩
        refine CLt.mk (fun hs => ?_) (fun hs => ?_)
        · refine Ar.fit64 (by omega) ?_
          refine ⟨(i + 1, _), ⟨rfl, rfl, trivial⟩, ⟨by omega, ho, .inr ⟨p3, l3, i, rfl, fr hf3, by omega, hfo3, hll3, fun h2i => ?_⟩⟩, by show 19 - (i + 1) < 19 - i; omega⟩
          by_cases h1 : i = 1
          · subst h1; rw [vb hfo3]; exact Nat.le_refl _
          · have := hl2 (by omega); omega
        · refine Ar.fit64 (by omega) ?_
          refine ⟨(i + 1, _), ⟨rfl, rfl, trivial⟩, ⟨by omega, ho, .inr ⟨p, l, kd, rfl, hf.keep ho3, hkd, hfo, hll, fun h2i => ?_⟩⟩, by show 19 - (i + 1) < 19 - i; omega⟩
          by_cases h1 : i = 1
          · subst h1; have := vb hfo3; omega
          · exact hl2 (by omega)
  · rcases hq with ⟨_, hi1⟩ | ⟨p, l, kd, rfl, hf, hkd, hfo, hll, hl2⟩
    · omega
    obtain ⟨W, hw, _, _⟩ := hf
    refine (Bytes_spec h2 p W l hw (by omega)).use ?_
    rintro v h3 ⟨b1, n1, c1, bs, rfl, hown, hbs, ho3⟩
    exact ⟨ho2.trans ho3, b1, n1, c1, bs, kd, l, rfl, hown.anylo (fun b hb => Nat.le_trans ho2.size (hown.lo b hb)), hbs, hfo, hkd, hl2 (by omega)⟩
end Go.Proofs.Ytaffgkgaoiolbaa.Ov.W
