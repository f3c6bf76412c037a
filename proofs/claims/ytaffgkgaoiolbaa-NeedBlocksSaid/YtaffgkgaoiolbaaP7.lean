/-
  WHAT THE FUNCTIONS OF PACKAGE frame DO (the writing side). No condition beyond each statement's own.
-/
import Derived.Test.YtaffgkgaoiolbaaP6
import Derived.Test.YtaffgkgaoiolbaaR
namespace Go.Proofs.Ytaffgkgaoiolbaa.Ov.W

theorem Wr.lt {h : H} {p : Nat} {W : List Nat} {l : List Bool} (hw : Wr h p W l) : ∀ b ∈ W, b < h.size := by
  obtain ⟨base, n, c, bs, rfl, hp, hb, ho, hbs⟩ := hw
  intro b hb'
  rcases List.mem_cons.1 hb' with rfl | hb'
  · exact hb.lt
  · exact ho.lt b hb'
theorem Wr.keep {M : List Nat} {h h' : H} {p : Nat} {W : List Nat} {l : List Bool} (ho : Only M h h') (hn : ∀ b ∈ W, b ∉ M) (hw : Wr h p W l) : Wr h' p W l := by
  obtain ⟨base, n, c, bs, rfl, hp, hb, hown, hbs⟩ := hw
  exact ⟨base, n, c, bs, rfl, hp, hb.keep ho (hn p (by simp)), hown.keep ho (fun b hb' => hn b (by simp [hb'])), hbs⟩
theorem Rds.lt {h : H} {base : Option Addr} {vs : List Value} (hr : Rds h base vs) : ∀ b ∈ blks base, b < h.size := by
  cases base with
  | none => intro b hb; cases hb
  | some a => intro b hb; simp [blks] at hb; subst hb; exact hr.2.1

/-- Samples as digits. -/
def smp (xs : List Int) : List Bool := xs.flatMap fun v => nb 24 (v + 8388608)
def cfs (cs : List Int) : List Bool := cs.flatMap fun v => nb 16 (v + 32768)
/-- Residuals as digits. -/
def rcs (rs : List Int) (k : Int) : List Bool := rs.flatMap fun v => riceBits (zig v) k
def ResB (rs : List Int) (b : List Bool) : Prop := ∃ k : Int, 0 ≤ k ∧ k ≤ 24 ∧ (∀ r ∈ rs, mayR (zig r) k) ∧ b = nb 5 k ++ rcs rs k
theorem flat_le {f : Int → List Bool} {m : Nat} (hf : ∀ x, (f x).length ≤ m) : ∀ xs : List Int, (xs.flatMap f).length ≤ m * xs.length := by
  intro xs
  induction xs with
  | nil => simp
  | cons x r ih => have := hf x; simp only [List.flatMap_cons, List.length_append, List.length_cons, Nat.mul_succ]; omega
theorem smp_len (xs : List Int) : (smp xs).length = 24 * xs.length := by
  unfold smp
  induction xs with
  | nil => rfl
  | cons x r ih => simp only [List.flatMap_cons, List.length_append, List.length_cons, nb_length, ih]; omega
theorem cfs_len (xs : List Int) : (cfs xs).length = 16 * xs.length := by
  unfold cfs
  induction xs with
  | nil => rfl
  | cons x r ih => simp only [List.flatMap_cons, List.length_append, List.length_cons, nb_length, ih]; omega
theorem rcs_len (xs : List Int) {k : Int} (hk : k ≤ 24) : (rcs xs k).length ≤ 80 * xs.length := flat_le (fun x => riceBits_le _ _ hk) xs

theorem samples_spec (h : H) (p : Nat) (W : List Nat) (l : List Bool) (base : Option Addr) (n c : Nat) (xs : List Int) (hw : Wr h p W l) (hr : Ints h base n xs) (hd : ∀ b ∈ blks base, b ∉ W) (hx : ∀ x ∈ xs, okS x) (hl : l.length + 24 * n + 100 < 2 ^ 40) :
    Fn Pg 25 #[.pointer (some ⟨p, 0, none⟩), .slice base n c] h fun v h' => v = .tuple #[] ∧ WrUp h p W (l ++ smp xs) h' := by
  have hln := hr.1
  refine g25 (args := [_, _]) ?_
  refine LoopH.mk (σ := Nat) (fun i => [(8, .int .i64 i)]) (fun i h2 => i ≤ n ∧ WrUp h p W (l ++ smp (xs.take i)) h2) (fun i _ => n - i) 0 ⟨rfl, trivial⟩ ⟨by omega, by simpa [smp] using WrUp.refl hw⟩ ?_
  rintro i h2 g ⟨hi, W2, hw2, ho2, hb2⟩
  have hlen := smp_len (xs.take i)
  rw [List.length_take] at hlen
  refine CLt.mk (fun hlt => ?_) (fun hge => ?_)
  · refine Ix.num (hr.keep ho2 hd) (by omega) (by omega) fun a ha => ?_
    refine Ld.mk ha ?_
    rw [show ((i : Int)).toNat = i from by omega]
    have hxi := getD_all (p := okS) hx (by unfold okS; omega) i
    unfold okS at hxi
    refine Ar.fit64 (by omega) ?_
    refine (Put_spec h2 p W2 _ _ 24 hw2 (by simp; omega) (by omega) (by omega)).use ?_
    rintro r h3 ⟨rfl, hu⟩
    refine Ar.fit64 (by omega) ?_
    refine ⟨i + 1, ⟨rfl, trivial⟩, ⟨by omega, ?_⟩, by omega⟩
    rw [take_getD (by omega)]
    have := WrUp.step ho2 hb2 hu
    simpa [smp, List.append_assoc] using this
  · have : i = n := by omega
    subst this
    rw [List.take_of_length_le (by omega)] at hw2
    exact ⟨rfl, W2, hw2, ho2, hb2⟩

theorem residuals_spec (h : H) (p : Nat) (W : List Nat) (l : List Bool) (base : Option Addr) (n c : Nat) (rs : List Int) (hw : Wr h p W l) (hr : Ints h base n rs) (hl : l.length + 80 * n + 10000 < 2 ^ 40) :
    Fn Pg 27 #[.pointer (some ⟨p, 0, none⟩), .slice base n c] h fun v h' => ∃ (b : Bool) (l' : List Bool), v = .bool b ∧ WrUp h p W (l ++ l') h' ∧ (b = true → ResB rs l') := by
  have hln := hr.1
  refine g27 (args := [_, _]) ?_
  refine LoopH.mk (σ := Nat × Option Addr × Nat) (fun (i, b, cc) => [(14, .int .i64 i), (5, .slice b i cc)])
    (fun (i, b, cc) h2 => i ≤ n ∧ Only [] h h2 ∧ OwnS h2 h.size b i cc 1 (((rs.take i).map zig).map (.int .i64))) (fun (i, _, _) _ => n - i) (0, none, 0) ⟨rfl, rfl, trivial⟩ ⟨by omega, Only.refl _ _, OwnS.nil _ _ _⟩ ?_
  rintro ⟨i, b, cc⟩ h2 g ⟨hi, ho2, hown⟩
  refine CLt.mk (fun hlt => ?_) (fun hge => ?_)
  · refine Ix.num (hr.keep0 ho2) (by omega) (by omega) fun a ha => ?_
    refine Ld.mk ha ?_
    rw [show ((i : Int)).toNat = i from by omega]
    refine (Zig_spec _ _).use ?_
    rintro v h3 ⟨rfl, rfl⟩
    refine New.app (cs := [.int .i64 _]) hown rfl (by simp [Value.oneCell']) (by decide) rfl (by omega) (by decide) ho2.size fun r h5 b5 c5 ho5 hon5 _ => ?_
    refine Ar.fit64 (by omega) ?_
    refine ⟨(i + 1, b5, c5), ⟨rfl, rfl, trivial⟩, ⟨by omega, ho2.trans' hon5 fun x hx => .inr (hown.lo x hx), ?_⟩, by show n - (i + 1) < n - i; omega⟩
    rw [take_getD (by omega)]
    simpa using ho5
  have : i = n := by omega
  subst this
  rw [List.take_of_length_le (by omega)] at hown
  have hz := hown.nums
  have hlz := hz.1
  refine (Best_spec h2 b i cc _ hz (by omega)).use ?_
  rintro v h3 ⟨k, s, rfl, hk0, hk1, rfl⟩
  have hw3 : Wr h3 p W l := hw.keep ho2 (by simp)
  have hW := hw.lt
  refine (Put_spec h3 p W l k 5 hw3 (by omega) (by omega) (by omega)).use ?_
  rintro v h4 ⟨rfl, hu4⟩
  have step : ∀ {m : List Bool} {h5 : H}, WrUp h3 p W m h5 → WrUp h p W m h5 := by
    rintro m h5 ⟨W5, hw5, ho5, hb5⟩
    exact ⟨W5, hw5, ho2.nil.trans ho5, fun b hb => (hb5 b hb).imp id (fun h => Nat.le_trans ho2.size h)⟩
  refine LoopH.mk (σ := Nat) (fun j => [(34, .int .i64 j)]) (fun j h5 => j ≤ i ∧ (∀ r ∈ rs.take j, mayR (zig r) k) ∧ WrUp h3 p W (l ++ (nb 5 k ++ rcs (rs.take j) k)) h5) (fun j _ => i - j) 0 ⟨rfl, trivial⟩
    ⟨by omega, by simp, by simpa [rcs] using hu4⟩ ?_
  rintro j h5 g ⟨hj, hm, W5, hw5, ho5, hb5⟩
  have hlen := rcs_len (rs.take j) hk1
  rw [List.length_take] at hlen
  refine CLt.mk (fun hlt => ?_) (fun hge => ?_)
  · have hz5 : Ints h5 b i (rs.map zig) := hz.keep ho5 fun x hx => by
      have h1 := hown.lo x hx
      intro h2
      have := hW x h2
      omega
    refine Ix.num hz5 (by omega) (by omega) fun a ha => ?_
    refine Ld.mk ha ?_
    rw [show ((j : Int)).toNat = j from by omega]
    have hgz : (rs.map zig).getD j 0 = zig (rs.getD j 0) := by
      rw [List.getD_eq_getElem?_getD, List.getD_eq_getElem?_getD, List.getElem?_map, List.getElem?_eq_getElem (by omega)]
      rfl
    rw [hgz]
    refine (RPut_spec h5 p W5 _ (zig (rs.getD j 0)) k hw5 (by simp [nb_length]; omega)).use ?_
    rintro v h6 hv
    rcases hv with ⟨_, rfl, rfl⟩ | ⟨hmr, rfl, hu6⟩
    · exact ⟨false, _, rfl, step ⟨W5, hw5, ho5, hb5⟩, by simp⟩
    · refine Ar.fit64 (by omega) ?_
      refine ⟨j + 1, ⟨rfl, trivial⟩, ⟨by omega, ?_, ?_⟩, by omega⟩
      · rw [take_getD (by omega)]
        intro x hx
        rcases List.mem_append.1 hx with h7 | h7
        · exact hm x h7
        · rw [List.mem_singleton.1 h7]; exact hmr
      · rw [take_getD (by omega)]
        have := WrUp.step ho5 hb5 hu6
        simpa [rcs, List.append_assoc] using this
  · have : j = i := by omega
    subst this
    rw [List.take_of_length_le (by omega)] at hm hw5
    exact ⟨true, _, rfl, step ⟨W5, hw5, ho5, hb5⟩, fun _ => ⟨k, hk0, hk1, hm, rfl⟩⟩

theorem predicted_spec (h : H) (p : Nat) (W : List Nat) (l : List Bool) (base : Option Addr) (n c : Nat) (xs : List Int) (order : Nat) (hw : Wr h p W l) (hr : Ints h base n xs) (hd : ∀ b ∈ blks base, b ∉ W) (hnc : n ≤ c) (hk : chk xs = 0) (ho : 1 ≤ order ∧ order ≤ 12) (hl : l.length ≤ 1000) :
    Fn Pg 28 #[.pointer (some ⟨p, 0, none⟩), .slice base n c, .int .i64 order] h fun v h' => ∃ (b : Bool) (l' : List Bool), v = .bool b ∧ WrUp h p W (l ++ l') h' ∧
      (b = true → order < n ∧ ∃ cs rb, mayL cs ∧ cs.length = order ∧ ResB (resL xs cs (n - order)) rb ∧ l' = smp (xs.take order) ++ cfs cs ++ rb) := by
  have hln := hr.1
  obtain ⟨hok, h64⟩ := chk_ok hk
  have hW := hw.lt
  refine g28 (args := [_, _, _]) ?_
  refine (LCoef_spec h base n c xs order hr hk ho).use ?_
  rintro v h1 ⟨ho1, hv⟩
  have up1 : WrUp h p W (l ++ []) h1 := by
    rw [List.append_nil]
    exact ⟨W, hw.keep ho1 (by simp), ho1.nil, fun b hb => .inl hb⟩
  rcases hv with ⟨b1, c1, cs, rfl, hcs, hc1, hmay, hon, hlo1⟩ | rfl
  rotate_left
  · exact ⟨false, [], rfl, up1, by simp⟩
  have hcl := hcs.1
  refine (LRes_spec h1 base n c xs b1 order c1 cs (hr.keep0 ho1) hcs hnc hmay (by omega) hk).use ?_
  rintro v h2 ⟨ho2, b2, n2, c2, rfl, hown2⟩
  refine CNe.f rfl ?_
  refine Sl.pre (by omega) (by omega) ?_
  have ho02 := ho1.trans ho2
  have hw2 : Wr h2 p W l := hw.keep ho02 (by simp)
  rw [show ((order : Int)).toNat = order from by omega]
  refine (samples_spec h2 p W l base order c (xs.take order) hw2 ((hr.keep0 ho02).take (by omega)) hd (fun x hx => hok x (List.mem_of_mem_take hx)) (by omega)).use ?_
  rintro v h3 ⟨rfl, hu3⟩
  have hl2 := hown2.nums.1
  simp only [resL, List.length_map, List.length_range] at hl2
  have dis : ∀ {x : Nat}, h.size ≤ x → x ∉ W := fun hx hm => by have := hW _ hm; omega
  refine LoopH.mk (σ := Nat) (fun j => [(36, .int .i64 j)]) (fun j h5 => j ≤ order ∧ WrUp h2 p W (l ++ smp (xs.take order) ++ cfs (cs.take j)) h5) (fun j _ => order - j) 0 ⟨rfl, trivial⟩
    ⟨by omega, by simpa [cfs] using hu3⟩ ?_
  rintro j h5 g ⟨hj, W5, hw5, ho5, hb5⟩
  have hlen := cfs_len (cs.take j)
  have hlen2 := smp_len (xs.take order)
  rw [List.length_take] at hlen hlen2
  refine CLt.mk (fun hlt => ?_) (fun hge => ?_)
  · have hcs5 : Ints h5 b1 order cs := (hcs.keep0 ho2).keep ho5 fun x hx => dis (hlo1 x hx)
    refine Ix.num hcs5 (by omega) (by omega) fun a ha => ?_
    refine Ld.mk ha ?_
    rw [show ((j : Int)).toNat = j from by omega]
    have hxi := getD_all (p := okC) hmay.1 (by unfold okC; omega) j
    unfold okC at hxi
    refine Ar.fit64 (by omega) ?_
    refine (Put_spec h5 p W5 _ _ 16 hw5 (by simp only [List.length_append]; omega) (by omega) (by omega)).use ?_
    rintro r h6 ⟨rfl, hu⟩
    refine Ar.fit64 (by omega) ?_
    refine ⟨j + 1, ⟨rfl, trivial⟩, ⟨by omega, ?_⟩, by omega⟩
    rw [take_getD (by omega)]
    have := WrUp.step ho5 hb5 hu
    simpa [cfs, List.append_assoc] using this
  · have : j = order := by omega
    subst this
    rw [List.take_of_length_le (l := cs) (by omega)] at hw5
    rw [List.take_of_length_le (l := cs) (by omega)] at hlen
    have hown5 : Ints h5 b2 n2 (resL xs cs (n - j)) := hown2.nums.keep ho5 fun x hx => dis (by have := hown2.lo x hx; have := ho1.size; omega)
    refine (residuals_spec h5 p W5 _ b2 n2 c2 _ hw5 hown5 (by simp only [List.length_append]; omega)).use ?_
    rintro v h6 ⟨b, l', rfl, hu6, hres⟩
    have hu := WrUp.step ho5 hb5 hu6
    refine ⟨b, smp (xs.take j) ++ cfs cs ++ l', by cases b <;> rfl, ?_, fun hb => ⟨hon, cs, l', hmay, hcl, hres hb, rfl⟩⟩
    obtain ⟨W6, hw6, ho6, hb6⟩ := hu
    exact ⟨W6, by simpa [List.append_assoc] using hw6, ho02.nil.trans ho6, fun b hb => (hb6 b hb).imp id (fun h => Nat.le_trans ho02.size h)⟩
end Go.Proofs.Ytaffgkgaoiolbaa.Ov.W
