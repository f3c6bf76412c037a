/-
  WHAT THE LAW AuditShort DOES. No condition beyond each statement's own.
-/
import Derived.Test.YtiabgojnljfmhaaGreatFG
import Derived.Test.YtiabgojnljfmhaaGreatPW
namespace Go.Proofs.YtiabgojnljfmhaaGreat.Ov.W

theorem App.nil0 {h : H} {T sz by' : Nat} {z : List Value} {b2 : Option Addr} {k : Value → H → Prop} (hk : k (.slice none 0 0) h) : App h T sz by' z none 0 0 b2 0 k := by
  unfold App
  refine ⟨[], ?_, fun _ => hk, fun hh => by omega⟩
  cases b2 with
  | none => rfl
  | some a => exact ⟨by simp, trivial⟩
theorem Copy8_spec (h : H) (base : Option Addr) (n c : Nat) (bs : List Int) (hr : n = 0 ∨ Bytes h base n bs) (hn : n ≤ 2 ^ 40) :
    Fn Pg 28 #[.slice base n c] h fun v h' => (∃ b1 c1, ∃ ys : List Int, v = .slice b1 n c1 ∧ OwnS h' h.size b1 n c1 1 (ys.map (.int .u8))) ∧ Only [] h h' := by
  refine g28 (args := [_]) ?_
  rcases hr with rfl | hr
  · refine App.nil0 ?_
    exact ⟨⟨none, 0, [], rfl, OwnS.nil _ _ _⟩, Only.refl _ _⟩
  · have hl := hr.1
    refine App.own (OwnS.nil h h.size 1) hr.2 (by simp; omega) one_int (by decide) rfl (by omega) (by decide) (Nat.le_refl _) fun h1 b1 c1 hown1 ho1 _ => ?_
    rw [Nat.zero_add] at hown1 ⊢
    exact ⟨⟨b1, c1, bs, rfl, hown1⟩, ho1⟩
theorem CutCopy8_spec (h : H) (base : Option Addr) (n c : Nat) (bs : List Int) (m : Nat) (hr : n = 0 ∨ Bytes h base n bs) (hnc : n ≤ c) (hm : m ≤ 2 ^ 40) :
    Fn Pg 15 #[.slice base n c, .int .i64 m] h fun v h' => (∃ b1 c1, ∃ ys : List Int, v = .slice b1 (min n m) c1 ∧ OwnS h' h.size b1 (min n m) c1 1 (ys.map (.int .u8))) ∧ Only [] h h' := by
  refine g15 (args := [_, _]) ?_
  have hcut : Fn Pg 29 #[.slice base n c, .int .i64 m] h fun v h' => v = .slice base (min n m) c ∧ h' = h := by
    refine g29 (args := [_, _]) ?_
    refine Sl.pre (by omega) (by omega) ?_
    exact ⟨by show Value.slice _ _ _ = _; congr 1; omega, rfl⟩
  refine hcut.use ?_
  rintro v h1 ⟨rfl, rfl⟩
  refine (Copy8_spec h1 base (min n m) c (bs.take (min n m)) ?_ (by omega)).use ?_
  · rcases hr with rfl | hr
    · exact .inl (by omega)
    · exact .inr (hr.take (by omega))
  rintro v h2 ⟨⟨b1, c1, ys, rfl, ho⟩, ho2⟩
  exact ⟨⟨b1, c1, ys, rfl, ho⟩, ho2⟩

theorem secAt_zeros (m i : Nat) : secAt (List.replicate (m * 128) 0) i = if i < m then List.replicate 128 0 else [] := by
  unfold secAt
  rw [List.drop_replicate, List.take_replicate]
  split
  · congr 1; omega
  · rw [show min 128 (m * 128 - i * 128) = 0 from by omega]; rfl
theorem supOf_zeros (m : Nat) : supOf (List.replicate (m * 128) 0) = none := by
  have h : ∀ i, unpS (secAt (List.replicate (m * 128) 0) i) = none := fun i => by
    rw [secAt_zeros]
    split
    · exact unpS_zeros
    · exact unpS_nil
  unfold supOf
  rw [h 0, h 1]
  rfl

/-! ### The example of the document -/
theorem flushed_zeros (n : Nat) : ∀ ws : List (Int × List Int), (∀ w ∈ ws, w.2 = zeroSec) → flushed (List.replicate n zeroSec) ws = List.replicate n zeroSec := by
  intro ws
  induction ws with
  | nil => intro _; rfl
  | cons w r ih =>
    intro h
    rw [flushed, List.foldl_cons, h w (by simp)]
    have : (List.replicate n zeroSec).set w.1.toNat zeroSec = List.replicate n zeroSec := by
      apply List.ext_getElem
      · simp
      · intro i h1 h2
        rw [List.getElem_set]
        split <;> simp
    rw [this]
    exact ih fun x hx => h x (by simp [hx])
theorem formatted_new (n cells : Nat) : formatted (List.replicate (n + 2) zeroSec) cells = packS 1 1 0 0 cells :: zeroSec :: List.replicate n zeroSec := by
  unfold formatted
  rw [flushed_zeros _ _ (fun w hw => by unfold wiped at hw; obtain ⟨i, _, rfl⟩ := List.mem_map.1 hw; rfl)]
  rfl
theorem supOf_new (n cells : Nat) (h1 : 1 ≤ cells) (h2 : cells ≤ 1024) : supOf (formatted (List.replicate (n + 2) zeroSec) cells).flatten = some ⟨1, 1, 0, 0, cells⟩ := by
  have hp : (packS 1 1 0 0 (cells : Int)).length = 128 := secOf_len _
  have hz : zeroSec.length = 128 := by simp [zeroSec]
  have s0 : secAt (formatted (List.replicate (n + 2) zeroSec) cells).flatten 0 = packS 1 1 0 0 cells := by
    rw [formatted_new]
    unfold secAt
    rw [Nat.zero_mul, List.drop_zero, List.flatten_cons, List.take_left' hp]
  have s1 : secAt (formatted (List.replicate (n + 2) zeroSec) cells).flatten 1 = zeroSec := by
    rw [formatted_new]
    unfold secAt
    rw [Nat.one_mul, List.flatten_cons, List.drop_left' hp, List.flatten_cons, List.take_left' hz]
  unfold supOf
  rw [s0, s1, unpS_packS (by unfold okSup; omega) (by omega) (by omega), show unpS zeroSec = none from unpS_zeros]
  rfl

set_option maxRecDepth 20000 in
theorem wakes26_spec (h : H) : Fn Pg 11 #[] h fun v h' => v = .bool true ∧ Only [] h h' := by
  refine g11 (args := []) ?_
  refine (DNew_spec h 40 (by omega) (by omega)).use ?_
  rintro v h1 ⟨d, W, rfl, hd1, ho1, hlo1⟩
  refine dC_seq ?_
  refine Raw.nilp (by kernel_rfl) rfl ?_
  refine (Format_spec h1 d W (List.replicate 40 zeroSec) 8 hd1 (by omega) (by omega) (by simp)).use ?_
  rintro v h2 ⟨rfl, W2, hd2, ho2, hb2⟩
  refine CNe.f rfl ?_
  have ho12 : Only [] h h2 := ho1.trans' ho2 (fun x hx => .inr (hlo1 x hx))
  have hks : (formatted (List.replicate 40 zeroSec) 8).flatten.length = 5120 := by
    rw [show (40 : Nat) = 38 + 2 from rfl, formatted_new, flat_len (sz := 128)]
    · simp
    · intro l hl
      simp only [List.mem_cons] at hl
      rcases hl with rfl | rfl | hl
      · exact secOf_len _
      · simp [zeroSec]
      · rw [List.eq_of_mem_replicate hl]; simp [zeroSec]
  have hby : ∀ x ∈ (formatted (List.replicate 40 zeroSec) 8).flatten, isByte x := by
    intro x hx
    obtain ⟨l, hl, hx⟩ := List.mem_flatten.1 hx
    rw [show (40 : Nat) = 38 + 2 from rfl, formatted_new] at hl
    simp only [List.mem_cons] at hl
    rcases hl with rfl | rfl | hl
    · exact packS_byte _ _ _ _ _ x hx
    · exact zeroSec_is.2 x hx
    · rw [List.eq_of_mem_replicate hl] at hx; exact zeroSec_is.2 x hx
  have hsup : supOf (formatted (List.replicate 40 zeroSec) 8).flatten = some ⟨1, 1, 0, 0, (8 : Nat)⟩ := supOf_new 38 8 (by omega) (by omega)
  have fnd : ∀ (hX : H) (b : Option Addr) (c : Nat), OwnS hX h2.size b 5120 c 1 ((formatted (List.replicate 40 zeroSec) 8).flatten.map (.int .u8)) → ∀ h', Only [] hX h' → Fn Pg 30 #[.slice b 5120 c] h' fun r h'' => Only [] h' h'' ∧ ∃ p b cc m, r = .tuple #[.pointer (some ⟨p, 0, none⟩), .int .i64 0] ∧ Blk h'' p (foundV ⟨1, 1, 0, 0, (8 : Nat)⟩ b cc m) := fun hX b c hown h' ho => by
    refine (found0_spec h' b 5120 c _ (hown.keep0 ho).nums hown.le hby (by omega) (by omega) (by omega) (fun s hs => by rw [hsup] at hs; injection hs with hs; rw [← hs])).use ?_
    rintro v h'' ⟨a1, a2⟩
    rw [hsup] at a2
    simp only at a2
    rw [if_neg (by omega)] at a2
    exact ⟨a1, a2⟩
  refine (DImage_spec h2 d W2 _ _ hd2).use ?_
  rintro v h3 ⟨b3, c3, rfl, hown3, ho3⟩
  rw [hks] at hown3 ⊢
  refine (Reach0A_spec h3 b3 5120 c3 ⟨1, 1, 0, 0, (8 : Nat)⟩ (fnd h3 b3 c3 hown3)).use ?_
  rintro v h4 ⟨⟨b4, c4, rfl⟩, ho4⟩
  refine (DImage_spec h4 d W2 _ _ ((hd2.keep0 ho3).keep0 ho4)).use ?_
  rintro v h5 ⟨b5, c5, rfl, hown5, ho5⟩
  rw [hks] at hown5 ⊢
  have h24 : h2.size ≤ h4.size := (ho3.trans ho4).size
  refine (Show0A_spec h5 b5 5120 c5 ⟨1, 1, 0, 0, (8 : Nat)⟩ (fnd h5 b5 c5 (hown5.anylo fun b hb => Nat.le_trans h24 (hown5.lo b hb)))).use ?_
  rintro v h6 ⟨rfl, ho6⟩
  refine New.blk (cs := [.slice none 0 0, .slice none 0 0, .slice none 0 0]) fun h7 hs7 hb7 ho7 => ?_
  refine ⟨rfl, ?_⟩
  refine StN.blk (new := [.slice none 0 0, .slice none 0 0, .slice none 0 0]) hb7 rfl (by simp [Value.oneCell']) fun h8 hb8 ho8 _ => ?_
  refine CEq.t rfl ?_
  refine CEq.t rfl ?_
  refine CEq.t rfl ?_
  refine Ld.blk hb8 rfl ?_
  refine CEq.t rfl ?_
  have e1 : Only [] h h7 := ((((ho12.trans ho3).trans ho4).trans ho5).trans ho6).trans ho7
  have e2 : h.size ≤ h6.size := ((((ho12.trans ho3).trans ho4).trans ho5).trans ho6).size
  exact ⟨rfl, e1.trans' ho8 (by simpa using e2)⟩

/-! ### Steps one by one (where a long row is slow to unfold) -/
section
variable {P : Program} {e : Env} {h : H} {K : Env → H → Prop} {r : List S} {d : Nat}
theorem dL_g {s : Nat} {want : Bool} {x : SO} (hs : e.get s = .bool want) (hk : dL P (.o d x :: r) e h K) : dL P (.g s want d x :: r) e h K := by
  simp only [dL, hs]
  cases want <;> exact hk
theorem dL_eqt {x y : X} {q : IntKind} {a : Int} (hx : e.ev x = .int q a) (hy : e.ev y = .int q a) (hk : dL P r (e.put d (.bool true)) h K) : dL P (.o d (.cm .eql x y) :: r) e h K := by
  simp only [dL, vO, hx, hy]
  exact kEq_in (CEq.t rfl hk)
theorem dL_pkt {c a b : X} {v : Value} (hc : e.ev c = .bool true) (ha : e.ev a = v) (hk : dL P r (e.put d v) h K) : dL P (.o d (.pk c a b) :: r) e h K := by
  simp only [dL, vO, hc, ha, force_eq]
  exact hk
theorem dL_len {x : X} {b : Option Addr} {n c : Nat} (hx : e.ev x = .slice b n c) (hk : dL P r (e.put d (.int .i64 n)) h K) : dL P (.o d (.len x) :: r) e h K := by
  simp only [dL, vO, hx]
  exact hk
end

theorem AuditShort_spec (h : H) (base : Option Addr) (n c : Nat) (bs : List Int) (k : Int) (hr : n = 0 ∨ Bytes h base n bs) (hnc : n ≤ c) :
    Fn Pg 4 #[.slice base n c, .int .i64 k] h fun v h' => v = .bool true ∧ Only [] h h' := by
  refine g4 (args := [_, _]) ?_
  refine (CutCopy8_spec h base n c bs 100 hr hnc (by omega)).use ?_
  rintro v h1 ⟨⟨b1, c1, ys, rfl, hown1⟩, ho1⟩
  refine seq_join (σ := Option Addr × Nat × Nat) (fun (b, m, cc) => [(0, .slice b m cc), (1, .int .i64 k)]) (fun (b, m, cc) h2 => Only [] h h2 ∧ 1 ≤ m ∧ m ≤ 100) ?_ ?_
  · refine Rem.nn (by omega) (by omega) ?_
    refine CEq.mk (fun hz => ?_) (fun hz => ?_)
    · refine New.app (cs := [.int .u8 7]) hown1 rfl (by simp [Value.oneCell']) (by decide) rfl (by omega) (by decide) ho1.size fun r h2 b2 c2 hown2 ho2 _ => ?_
      exact ⟨(b2, min n 100 + 1, c2), ⟨rfl, rfl, trivial⟩, ho1.trans' ho2 (fun x hx => .inr (hown1.lo x hx)), by omega, by omega⟩
    · exact ⟨(b1, min n 100, c1), ⟨rfl, rfl, trivial⟩, ho1, by omega, by omega⟩
  rintro ⟨b, m, cc⟩ h2 g ⟨ho2, hm1, hm2⟩
  have hs0 : sectorsOf m = 0 := by rw [sectorsOf, if_pos (.inl (by omega))]
  have fA : ∀ hX, Fails hX (.slice b m cc) 1 := fun hX h' _ => (foundArg_spec h' b m cc (by omega) hs0).use fun v h'' hv => hv
  refine (ReachE_spec h2 b m cc 1 (fA h2) (by omega)).use ?_
  rintro v h3 ⟨rfl, ho3⟩
  refine (ShowE_spec h3 b m cc 1 (fA h3) (by omega)).use ?_
  rintro v h4 ⟨rfl, ho4⟩
  refine New.blk (cs := [.slice none 0 0, .slice none 0 0, .slice none 0 0]) fun h5 hs5 hb5 ho5 => ?_
  refine ⟨rfl, ?_⟩
  refine StN.blk (new := [.slice none 0 0, .slice none 0 0, .slice none 0 0]) hb5 rfl (by simp [Value.oneCell']) fun h6 hb6 ho6 _ => ?_
  have e4 : Only [] h h4 := (ho2.trans ho3).trans ho4
  have e6 : Only [] h h6 := (e4.trans ho5).trans' ho6 (by simpa using e4.size)
  refine (JournalE_spec h6 b m cc 1 (fA h6) (by omega)).use ?_
  rintro v h7 ⟨rfl, ho7⟩
  refine (SamplesArg_spec h7 b m cc (by omega) hs0).use ?_
  rintro v h8 ⟨rfl, ho8⟩
  refine (Within_spec h8 k 40 (by omega)).use ?_
  rintro v h9 ⟨rfl, rfl⟩
  have hw := within_bd k 40 (by omega)
  obtain ⟨q, hq⟩ := Int.eq_ofNat_of_zero_le hw.1
  rw [hq] at hw ⊢
  refine Ar.fit64 (by omega) ?_
  refine Ar.fit64 (by omega) ?_
  refine Mk.own (by omega) (by omega) (by omega) fun h10 hown10 ho10 hs10 => ?_
  have e8 : Only [] h h9 := (e6.trans ho7).trans ho8
  have hz : ((1 + (q : Int)) * 128).toNat = (1 + q) * 128 := by omega
  rw [hz] at hown10 ⊢
  have hrep : List.replicate ((1 + q) * 128) (Value.int .u8 0) = (List.replicate ((1 + q) * 128) (0 : Int)).map (.int .u8) := List.map_replicate.symm
  rw [hrep] at hown10
  have e10 : Only [] h h10 := e8.trans ho10
  have fC : ∀ hX, Only [] h10 hX → Fails hX (.slice (some ⟨h9.size, 0, none⟩) ((1 + q) * 128) ((1 + q) * 128)) 2 := fun hX hoX h' ho' => by
    refine (found0_spec h' _ ((1 + q) * 128) ((1 + q) * 128) (List.replicate ((1 + q) * 128) 0) ((hown10.keep0 hoX).keep0 ho').nums (Nat.le_refl _) (fun x hx => by rw [List.eq_of_mem_replicate hx]; unfold isByte; omega) (by omega) (by omega) (by omega) (fun s hs => by rw [supOf_zeros] at hs; cases hs)).use ?_
    rintro v h'' ⟨a1, a2⟩
    rw [supOf_zeros] at a2
    exact ⟨a2, a1⟩
  refine (ReachE_spec h10 _ _ _ 2 (fC h10 (Only.refl _ _)) (by omega)).use ?_
  rintro v h11 ⟨rfl, ho11⟩
  refine (ShowE_spec h11 _ _ _ 2 (fC h11 ho11) (by omega)).use ?_
  rintro v h12 ⟨rfl, ho12⟩
  refine New.blk (cs := [.slice none 0 0, .slice none 0 0, .slice none 0 0]) fun h13 hs13 hb13 ho13 => ?_
  refine ⟨rfl, ?_⟩
  refine StN.blk (new := [.slice none 0 0, .slice none 0 0, .slice none 0 0]) hb13 rfl (by simp [Value.oneCell']) fun h14 hb14 ho14 _ => ?_
  have f12 : Only [] h10 h12 := ho11.trans ho12
  have f14 : Only [] h10 h14 := (f12.trans ho13).trans' ho14 (by simpa using f12.size)
  refine (JournalE_spec h14 _ _ _ 2 (fC h14 f14) (by omega)).use ?_
  rintro v h15 ⟨rfl, ho15⟩
  refine seq_join (σ := Unit) (fun _ => [(6, .int .i64 1), (8, .int .i64 1), (10, .int .i64 1), (12, .int .i64 1), (15, .int .i64 2), (17, .int .i64 2), (19, .int .i64 2), (21, .int .i64 0), (20, .slice none 0 0)]) (fun _ hX => Only [] h15 hX) ?_ ?_
  · refine (Samples0_spec h15 _ ((1 + q) * 128) _ (by omega) (by rw [sectorsOf, if_neg (by omega)]; omega)).use ?_
    rintro v h16 ⟨rfl, ho16⟩
    exact ⟨(), ⟨rfl, rfl, rfl, rfl, rfl, rfl, rfl, rfl, rfl, trivial⟩, ho16⟩
  rintro _ h16 g ho16
  refine dC_seq ?_
  refine dC_ops ?_
  refine dL_mo (v := .int .i64 1) rfl ?_
  refine dL_eqt rfl rfl ?_
  refine dL_mo (v := .bool true) rfl ?_
  refine dL_g rfl ?_
  refine dL_mo (v := .int .i64 1) rfl ?_
  refine dL_g rfl ?_
  refine dL_eqt rfl rfl ?_
  refine dL_pkt (v := .bool true) rfl rfl ?_
  refine dL_mo (v := .bool true) rfl ?_
  refine dL_g rfl ?_
  refine dL_mo (v := .int .i64 1) rfl ?_
  refine dL_g rfl ?_
  refine dL_eqt rfl rfl ?_
  refine dL_pkt (v := .bool true) rfl rfl ?_
  refine dL_mo (v := .bool true) rfl ?_
  refine dL_g rfl ?_
  refine dL_mo (v := .int .i64 1) rfl ?_
  refine dL_g rfl ?_
  refine dL_eqt rfl rfl ?_
  refine dL_pkt (v := .bool true) rfl rfl ?_
  refine dL_mo (v := .bool true) rfl ?_
  refine dL_g rfl ?_
  refine dL_mo (v := .int .i64 2) rfl ?_
  refine dL_g rfl ?_
  refine dL_eqt rfl rfl ?_
  refine dL_pkt (v := .bool true) rfl rfl ?_
  refine dL_mo (v := .bool true) rfl ?_
  refine dL_g rfl ?_
  refine dL_mo (v := .int .i64 2) rfl ?_
  refine dL_g rfl ?_
  refine dL_eqt rfl rfl ?_
  refine dL_pkt (v := .bool true) rfl rfl ?_
  refine dL_mo (v := .bool true) rfl ?_
  refine dL_g rfl ?_
  refine dL_mo (v := .int .i64 2) rfl ?_
  refine dL_g rfl ?_
  refine dL_eqt rfl rfl ?_
  refine dL_pkt (v := .bool true) rfl rfl ?_
  refine dL_mo (v := .bool true) rfl ?_
  refine dL_g rfl ?_
  refine dL_mo (v := .int .i64 0) rfl ?_
  refine dL_g rfl ?_
  refine dL_eqt rfl rfl ?_
  refine dL_pkt (v := .bool true) rfl rfl ?_
  refine dL_mo (v := .bool true) rfl ?_
  refine dL_g rfl ?_
  refine dL_mo (v := .slice none 0 0) rfl ?_
  refine dL_g rfl ?_
  refine dL_len rfl ?_
  refine dL_g rfl ?_
  refine dL_eqt (a := 0) rfl rfl ?_
  refine dL_pkt (v := .bool true) rfl rfl ?_
  refine dL_mo (v := .bool true) rfl ?_
  refine dL_g rfl ?_
  refine (wakes26_spec h16).use ?_
  rintro v h17 ⟨rfl, ho17⟩
  refine dL_pkt (v := .bool true) rfl rfl ?_
  refine dL_mo (v := .bool true) rfl ?_
  exact ⟨rfl, (((e10.trans f14).trans ho15).trans ho16).trans ho17⟩
end Go.Proofs.YtiabgojnljfmhaaGreat.Ov.W
