/-
  WHAT LIES ON A DISK: package audit, of images without a root. No condition beyond each statement's own.
-/
import Derived.Test.YtiabgojnljfmhaaGreatFE
import Derived.Test.YtiabgojnljfmhaaGreatFF
import Derived.Test.YtiabgojnljfmhaaGreatPX
namespace Go.Proofs.YtiabgojnljfmhaaGreat.Ov.W

def sectorsOf (n : Nat) : Nat := if n % 128 ≠ 0 ∨ 4096 < n / 128 then 0 else n / 128
theorem sectors_spec (h : H) (base : Option Addr) (n c : Nat) (hn : n ≤ 2 ^ 47) : Fn Pg 21 #[.slice base n c] h fun v h' => v = .int .i64 (sectorsOf n) ∧ h' = h := by
  refine g21 (args := [_]) ?_
  refine Quo.nn64 (by omega) (by omega) ?_
  refine Rem.nn (by omega) (by omega) ?_
  refine CNe.mk (fun h1 => ?_) (fun h1 => ?_)
  · exact ⟨by rw [sectorsOf, if_pos (.inl (by omega))]; rfl, rfl⟩
  refine CLt.mk (fun h2 => ?_) (fun h2 => ?_)
  · exact ⟨by rw [sectorsOf, if_pos (.inr (by omega))]; rfl, rfl⟩
  · refine ⟨?_, rfl⟩
    rw [sectorsOf, if_neg (by omega)]
    show Value.int .i64 ((n : Int) / 128) = _
    congr 1

/-- A sector of an image's bytes. -/
def secAt (bs : List Int) (i : Nat) : List Int := (bs.drop (i * 128)).take 128
theorem secAt_byte {bs : List Int} (hb : ∀ x ∈ bs, isByte x) (i : Nat) : ∀ x ∈ secAt bs i, isByte x := fun x hx => hb x (List.mem_of_mem_drop (List.mem_of_mem_take hx))
theorem sector_spec (h : H) (base : Option Addr) (n c : Nat) (bs : List Int) (i : Nat) (hr : Bytes h base n bs) (hnc : n ≤ c) (hn : n ≤ 2 ^ 47) (h128 : n % 128 = 0) (hi : i ≤ 2 ^ 40) :
    Fn Pg 33 #[.slice base n c, .int .i64 i] h fun v h' => h' = h ∧ ∃ b m cc ok, v = .tuple #[.slice b m cc, .bool ok] ∧ Bytes h b m (secAt bs i) ∧ m ≤ cc ∧ (∀ x ∈ blks b, x ∈ blks base) ∧ (ok = true ↔ i < n / 128) := by
  have hl := hr.1
  refine g33 (args := [_, _]) ?_
  refine CLt.f (by omega) ?_
  refine Quo.nn64 (by omega) (by omega) ?_
  refine CLe.mk (fun h1 => ?_) (fun h1 => ?_)
  · refine ⟨rfl, none, 0, 0, false, rfl, ?_, by omega, by simp [blks], by simp; omega⟩
    have : secAt bs i = [] := by unfold secAt; rw [List.drop_of_length_le (by omega)]; rfl
    rw [this]
    exact Nums.nil _ _
  refine Ar.fit64 (by omega) ?_
  refine Ar.fit64 (by omega) ?_
  refine Ar.fit64 (by omega) ?_
  refine Ar.fit64 (by omega) ?_
  refine Ar.fit64 (by omega) ?_
  refine Sl.mk (by omega) (by omega) (by omega) (by omega) ?_
  obtain ⟨a, rfl⟩ : ∃ a, base = some a := by
    cases base with
    | none => have := hr.2; simp [Rds] at this; subst this; simp at hl; omega
    | some a => exact ⟨a, rfl⟩
  have e1 : (((i : Int) + 1) * 128).toNat - ((i : Int) * 128).toNat = 128 := by omega
  have e2 : ((i : Int) * 128).toNat * 1 = i * 128 := by omega
  rw [if_neg (by omega), e1, e2]
  have hrow : Row h a (bs.map (.int .u8)) := hr.2
  have hsec : Row h (a.add (i * 128)) ((secAt bs i).map (.int .u8)) := by
    have h5 : bs.map (Value.int .u8) = (bs.take (i * 128)).map (.int .u8) ++ ((secAt bs i).map (.int .u8) ++ ((bs.drop (i * 128)).drop 128).map (.int .u8)) := by
      rw [← List.map_append, ← List.map_append, secAt, List.take_append_drop, List.take_append_drop]
    rw [h5] at hrow
    have h6 := (Row.drop hrow).take
    rwa [show ((bs.take (i * 128)).map (Value.int .u8)).length = i * 128 from by simp; omega] at h6
  refine ⟨rfl, some (a.add (i * 128)), 128, 128, true, rfl, ⟨by unfold secAt; simp; omega, hsec⟩, by omega, ?_, by simp; omega⟩
  intro x hx
  rw [add_eq hrow.1] at hx
  exact hx

theorem foundR_spec (h : H) (r : Nat) (base : Option Addr) (n c : Nat) (bs : List Int) (i : Nat) (hb : Blk h r [.slice base n c]) (hr : Bytes h base n bs) (hnc : n ≤ c) (hn : n ≤ 2 ^ 47) (h128 : n % 128 = 0) (hi : i ≤ 2 ^ 40) :
    Fn Pg 51 #[.int .i64 i, .pointer (some ⟨r, 0, none⟩)] h fun v h' => Only [] h h' ∧ ∃ b m cc ok, v = .tuple #[.slice b m cc, .bool ok] ∧ Bytes h' b m (secAt bs i) ∧ m ≤ cc := by
  refine g51 (args := [_, _]) ?_
  refine Ld.blk hb rfl ?_
  refine (sector_spec h base n c bs i hr hnc hn h128 hi).use ?_
  rintro v h1 ⟨rfl, b, m, cc, ok, rfl, h2, h3, _, _⟩
  exact ⟨Only.refl _ _, b, m, cc, ok, rfl, h2, h3⟩

theorem foundArg_spec (h : H) (base : Option Addr) (n c : Nat) (hn : n ≤ 2 ^ 47) (h0 : sectorsOf n = 0) : Fn Pg 30 #[.slice base n c] h fun v h' => v = .tuple #[.pointer none, .int .i64 1] ∧ Only [] h h' := by
  refine g30 (args := [_]) ?_
  refine dC_seq ?_
  refine dC_ops ?_
  simp only [dL, vO, force_eq]
  refine New.blk (cs := [.slice base n c]) fun h1 hs1 hb1 ho1 => ?_
  refine Ld.blk hb1 rfl ?_
  refine (sectors_spec h1 base n c hn).use ?_
  rintro v h2 ⟨rfl, rfl⟩
  rw [h0]
  refine CEq.t rfl ?_
  exact ⟨rfl, ho1⟩

/-- Which superblock of an image counts. -/
def supOf (bs : List Int) : Option Sup := (chooseS (unpS (secAt bs 0)) (unpS (secAt bs 1))).1
theorem unpS_bd {bs : List Int} (hb : ∀ x ∈ bs, isByte x) {s : Sup} (h : unpS bs = some s) : 1 ≤ s.gen ∧ 1 ≤ s.life ∧ 0 ≤ s.done ∧ 0 ≤ s.root ∧ s.root < 4096 ∧ 1 ≤ s.cells ∧ s.cells ≤ 1024 ∧ s.gen < 2147483648 ∧ s.life < 2147483648 ∧ s.done < 2147483648 := by
  unfold unpS at h
  split at h
  · cases h
  · rename_i fs hop
    split at h
    · rename_i hok
      injection h with h
      subst h
      have hk := hok.1
      have hfb := (opens_byte hb hop).1
      have := supN_bd hfb 2
      have := supN_bd hfb 3
      unfold okSup at hk
      simp only
      omega
    · cases h
theorem choose_mem {a b : Option Sup} {s : Sup} {k : Int} (h : chooseS a b = (some s, k)) : a = some s ∨ b = some s := by
  cases a <;> cases b <;> simp only [chooseS] at h
  · cases h
  · injection h with h1 h2; exact .inr h1
  · injection h with h1 h2; exact .inl h1
  · split at h
    · injection h with h1 h2; exact .inr h1
    · injection h with h1 h2; exact .inl h1

theorem found0_spec (h : H) (base : Option Addr) (n c : Nat) (bs : List Int) (hr : Bytes h base n bs) (hnc : n ≤ c) (hb : ∀ x ∈ bs, isByte x) (h128 : n % 128 = 0) (h1 : 1 ≤ n / 128) (h2 : n / 128 ≤ 4096) (hroot : ∀ s, supOf bs = some s → s.root = 0) :
    Fn Pg 30 #[.slice base n c] h fun v h' => Only [] h h' ∧ match supOf bs with
      | none => v = .tuple #[.pointer none, .int .i64 2]
      | some s => if ((n / 128 : Nat) : Int) < s.cells + 12 then v = .tuple #[.pointer none, .int .i64 2] else ∃ p b cc m, v = .tuple #[.pointer (some ⟨p, 0, none⟩), .int .i64 0] ∧ Blk h' p (foundV s b cc m) := by
  have hl := hr.1
  refine g30 (args := [_]) ?_
  refine dC_seq ?_
  refine dC_ops ?_
  simp only [dL, vO, force_eq]
  refine New.blk (cs := [.slice base n c]) fun h3 hs3 hb3 ho3 => ?_
  refine Ld.blk hb3 rfl ?_
  refine (sectors_spec h3 base n c (by omega)).use ?_
  rintro v h4 ⟨rfl, rfl⟩
  have hse : sectorsOf n = n / 128 := by rw [sectorsOf, if_neg (by omega)]
  rw [hse]
  refine CEq.f (by omega) ?_
  refine Raw.mkf (a := []) (b := [.pointer (some ⟨h.size, 0, none⟩)]) rfl rfl ?_
  have rd : ∀ i : Nat, i ≤ 1 → Reads h4 51 [] [.pointer (some ⟨h.size, 0, none⟩)] i (secAt bs i) := fun i hi h' ho =>
    (foundR_spec h' h.size base n c bs i (hb3.keep ho (by simp)) ((hr.keep0 ho3).keep0 ho) hnc (by omega) h128 (by omega)).use fun v h'' ⟨a1, b, m, cc, ok, a2, a3, a4⟩ => ⟨a1, b, m, cc, ok, a2, a3, a4⟩
  refine (From0_spec h4 51 [] [.pointer (some ⟨h.size, 0, none⟩)] ((n / 128 : Nat) : Int) (secAt bs 0) (secAt bs 1) (by kernel_rfl) (rd 0 (by omega)) (rd 1 (by omega)) (secAt_byte hb 0) (secAt_byte hb 1) (by omega) (fun s k hch => ?_)).use ?_
  · have hs := hroot s (by unfold supOf; rw [hch])
    rcases choose_mem hch with h7 | h7
    · have := unpS_bd (secAt_byte hb 0) h7; omega
    · have := unpS_bd (secAt_byte hb 1) h7; omega
  rintro v h5 ⟨ho5, hv⟩
  cases hch : chooseS (unpS (secAt bs 0)) (unpS (secAt bs 1)) with
  | mk r k =>
  have hso : supOf bs = r := by unfold supOf; rw [hch]
  rw [hch] at hv
  rw [hso]
  cases r with
  | none =>
    simp only at hv
    subst hv
    exact ⟨ho3.trans ho5, rfl⟩
  | some s =>
    simp only at hv ⊢
    by_cases hlt : ((n / 128 : Nat) : Int) < s.cells + 12
    · rw [if_pos hlt] at hv
      subst hv
      exact ⟨ho3.trans ho5, by rw [if_pos hlt]; rfl⟩
    · rw [if_neg hlt] at hv
      obtain ⟨p, b, cc, m, rfl, hb5⟩ := hv
      exact ⟨ho3.trans ho5, by rw [if_neg hlt]; exact ⟨p, b, cc, m, rfl, hb5⟩⟩

/-! ### What is told of images that are none -/
/-- 'found' says that there is nothing, and why. -/
def Fails (h : H) (v : Value) (e : Int) : Prop := ∀ h', Only [] h h' → Fn Pg 30 #[v] h' fun r h'' => r = .tuple #[.pointer none, .int .i64 e] ∧ Only [] h' h''
theorem ReachE_spec (h : H) (b : Option Addr) (n c : Nat) (e : Int) (hf : Fails h (.slice b n c) e) (he : e ≠ 0) : Fn Pg 16 #[.slice b n c] h fun v h' => v = .tuple #[.slice none 0 0, .int .i64 e] ∧ Only [] h h' := by
  refine g16 (args := [_]) ?_
  refine (hf h (Only.refl _ _)).use ?_
  rintro v h1 ⟨rfl, ho⟩
  refine CNe.t he ?_
  exact ⟨rfl, ho⟩
theorem JournalE_spec (h : H) (b : Option Addr) (n c : Nat) (e : Int) (hf : Fails h (.slice b n c) e) (he : e ≠ 0) : Fn Pg 18 #[.slice b n c] h fun v h' => v = .tuple #[.slice none 0 0, .int .i64 e] ∧ Only [] h h' := by
  refine g18 (args := [_]) ?_
  refine (hf h (Only.refl _ _)).use ?_
  rintro v h1 ⟨rfl, ho⟩
  refine CNe.t he ?_
  exact ⟨rfl, ho⟩
theorem ShowE_spec (h : H) (b : Option Addr) (n c : Nat) (e : Int) (hf : Fails h (.slice b n c) e) (he : e ≠ 0) : Fn Pg 17 #[.slice b n c] h fun v h' => v = .tuple #[.agg #[.slice none 0 0, .slice none 0 0, .slice none 0 0], .int .i64 e] ∧ Only [] h h' := by
  refine g17 (args := [_]) ?_
  refine New.blk (cs := [.slice none 0 0, .slice none 0 0, .slice none 0 0]) fun h1 hs1 hb1 ho1 => ?_
  refine (hf h1 ho1).use ?_
  rintro v h2 ⟨rfl, ho2⟩
  refine CNe.t he ?_
  refine ⟨rfl, ?_⟩
  refine StN.blk (new := [.slice none 0 0, .slice none 0 0, .slice none 0 0]) (hb1.keep ho2 (by simp)) rfl (by simp [Value.oneCell']) fun h3 hb3 ho3 _ => ?_
  refine LdN.row hb3.row rfl ?_
  exact ⟨rfl, (ho1.trans ho2).trans' ho3 (by simp)⟩
theorem SamplesArg_spec (h : H) (b : Option Addr) (n c : Nat) (hn : n ≤ 2 ^ 47) (h0 : sectorsOf n = 0) : Fn Pg 10 #[.slice b n c, .slice none 0 0] h fun v h' => v = .tuple #[.slice none 0 0, .int .i64 1] ∧ Only [] h h' := by
  refine g10 (args := [_, _]) ?_
  refine (sectors_spec h b n c hn).use ?_
  rintro v h1 ⟨rfl, rfl⟩
  rw [h0]
  refine CEq.t rfl ?_
  exact ⟨rfl, Only.refl _ _⟩
theorem Valid0_spec (h : H) : Fn Pg 22 #[.slice none 0 0] h fun v h' => v = .bool true ∧ h' = h := by
  refine g22 (args := [_]) ?_
  have : Fn Pg 41 #[.slice none 0 0] h fun v h' => v = .bool true ∧ h' = h := by
    refine g41 (args := [_]) ?_
    refine LoopH.mk (σ := Unit) (fun _ => [(8, .int .i64 0)]) (fun _ h2 => h2 = h) (fun _ _ => 0) () ⟨rfl, trivial⟩ rfl ?_
    rintro _ h2 g rfl
    refine CLt.f (by decide) ?_
    exact ⟨rfl, rfl⟩
  refine this.use ?_
  rintro v h1 ⟨rfl, rfl⟩
  exact ⟨rfl, rfl⟩
theorem Samples0_spec (h : H) (b : Option Addr) (n c : Nat) (hn : n ≤ 2 ^ 47) (h0 : sectorsOf n ≠ 0) : Fn Pg 10 #[.slice b n c, .slice none 0 0] h fun v h' => v = .tuple #[.slice none 0 0, .int .i64 0] ∧ Only [] h h' := by
  refine g10 (args := [_, _]) ?_
  refine (sectors_spec h b n c hn).use ?_
  rintro v h1 ⟨rfl, rfl⟩
  refine CEq.f (by omega) ?_
  refine (Valid0_spec h1).use ?_
  rintro v h2 ⟨rfl, rfl⟩
  have : Fn Pg 23 #[.slice b n c, .slice none 0 0] h2 fun v h' => v = .tuple #[.slice none 0 0, .bool true] ∧ Only [] h2 h' := by
    refine g23 (args := [_, _]) ?_
    refine (BNew_spec h2).use ?_
    rintro v h3 ⟨p, t, rfl, _, ho3, _, _⟩
    refine LoopH.mk (σ := Unit) (fun _ => [(17, .int .i64 0), (7, .slice none 0 0)]) (fun _ h4 => h4 = h3) (fun _ _ => 0) () ⟨rfl, rfl, trivial⟩ rfl ?_
    rintro _ h4 g rfl
    refine CLt.f (by decide) ?_
    exact ⟨rfl, ho3⟩
  refine this.use ?_
  rintro v h3 ⟨rfl, ho3⟩
  exact ⟨rfl, ho3⟩

/-! ### What is told of images without a root -/
theorem Reach0A_spec (h : H) (b : Option Addr) (n c : Nat) (s : Sup) (hf : ∀ h', Only [] h h' → Fn Pg 30 #[.slice b n c] h' fun r h'' => Only [] h' h'' ∧ ∃ p b cc m, r = .tuple #[.pointer (some ⟨p, 0, none⟩), .int .i64 0] ∧ Blk h'' p (foundV s b cc m)) :
    Fn Pg 16 #[.slice b n c] h fun v h' => (∃ b' c', v = .tuple #[.slice b' 0 c', .int .i64 0]) ∧ Only [] h h' := by
  refine g16 (args := [_]) ?_
  refine (hf h (Only.refl _ _)).use ?_
  rintro v h1 ⟨ho, p, b2, c2, m, rfl, hb⟩
  refine CNe.f rfl ?_
  refine Ld.blk hb rfl ?_
  exact ⟨⟨b2, c2, rfl⟩, ho⟩
theorem Show0A_spec (h : H) (b : Option Addr) (n c : Nat) (s : Sup) (hf : ∀ h', Only [] h h' → Fn Pg 30 #[.slice b n c] h' fun r h'' => Only [] h' h'' ∧ ∃ p b cc m, r = .tuple #[.pointer (some ⟨p, 0, none⟩), .int .i64 0] ∧ Blk h'' p (foundV s b cc m)) :
    Fn Pg 17 #[.slice b n c] h fun v h' => v = .tuple #[.agg #[.slice none 0 0, .slice none 0 0, .slice none 0 0], .int .i64 0] ∧ Only [] h h' := by
  refine g17 (args := [_]) ?_
  refine New.blk (cs := [.slice none 0 0, .slice none 0 0, .slice none 0 0]) fun h1 hs1 hb1 ho1 => ?_
  refine (hf h1 ho1).use ?_
  rintro v h2 ⟨ho2, p, b2, c2, m, rfl, hb⟩
  refine CNe.f rfl ?_
  refine Ld.blk hb rfl ?_
  refine Raw.nilp (by kernel_rfl) rfl ?_
  refine ⟨rfl, ?_⟩
  refine StN.blk (new := [.slice none 0 0, .slice none 0 0, .slice none 0 0]) (hb1.keep ho2 (by simp)) rfl (by simp [Value.oneCell']) fun h3 hb3 ho3 _ => ?_
  refine LdN.row hb3.row rfl ?_
  exact ⟨rfl, (ho1.trans ho2).trans' ho3 (by simp)⟩
end Go.Proofs.YtiabgojnljfmhaaGreat.Ov.W
