/-
  DISKS: package disk. No condition beyond each statement's own.
-/
import Derived.Test.YtiabgojnljfmhaaGreatFA
import Derived.Test.YtiabgojnljfmhaaGreatP9
import Derived.Test.YtiabgojnljfmhaaGreatPB
namespace Go.Proofs.YtiabgojnljfmhaaGreat.Ov.W

/-! ### Rows of pieces of one length -/
theorem flat_len {α : Type} {sz : Nat} : ∀ {ls : List (List α)}, (∀ l ∈ ls, l.length = sz) → ls.flatten.length = ls.length * sz := by
  intro ls
  induction ls with
  | nil => intro _; simp
  | cons l r ih =>
    intro h
    rw [List.flatten_cons, List.length_append, h l (by simp), ih fun x hx => h x (by simp [hx]), List.length_cons, Nat.succ_mul]
    omega
theorem flat_split {α : Type} {sz i : Nat} {ls : List (List α)} (h : ∀ l ∈ ls, l.length = sz) (hi : i < ls.length) :
    ∃ a c, ls.flatten = a ++ (ls[i] ++ c) ∧ a.length = i * sz ∧ ∀ x, (ls.set i x).flatten = a ++ (x ++ c) := by
  refine ⟨(ls.take i).flatten, (ls.drop (i + 1)).flatten, ?_, ?_, fun x => ?_⟩
  · conv => lhs; rw [← List.take_append_drop i ls, List.drop_eq_getElem_cons hi]
    rw [List.flatten_append, List.flatten_cons]
  · rw [flat_len fun l hl => h l (List.mem_of_mem_take hl), List.length_take, Nat.min_eq_left (by omega)]
  · rw [List.set_eq_take_append_cons_drop, if_pos hi, List.flatten_append, List.flatten_cons]
theorem Blk.seg {h : H} {b n : Nat} {a s c : List Value} (hb : Blk h b (a ++ (s ++ c))) (hn : a.length = n) : Row h ⟨b, n, none⟩ s := by
  have := (Row.drop (vs := a) hb.row).take
  rw [add_eq rfl, Nat.zero_add, hn] at this
  exact this
theorem StN.seg {h : H} {b n : Nat} {a s c new : List Value} {k : H → Prop} (hb : Blk h b (a ++ (s ++ c))) (hn : a.length = n) (hl : new.length = s.length) (hv : ∀ v ∈ new, v.oneCell' = true)
    (hk : ∀ h', Blk h' b (a ++ (new ++ c)) → Only [b] h h' → h'.size = h.size → k h') : StN h ⟨b, n, none⟩ new k := by
  unfold StN
  refine stN_blk new h n 0 _ hb (by simp only [List.length_append]; omega) hv fun h' hb' ho hs => ?_
  rw [Nat.add_zero, ← hn, putAt_mid new a (s ++ c) (by simp only [List.length_append]; omega), List.drop_append_of_le_length (by omega), List.drop_of_length_le (by omega), List.nil_append, List.append_assoc] at hb'
  exact hk h' hb' ho hs

/-! ### What a disk is -/
def isSec (s : List Int) : Prop := s.length = 128 ∧ ∀ x ∈ s, isByte x
def secV (s : List Int) : List Value := s.map (.int .u8)
def waitV (w : Int × List Int) : List Value := .int .i64 w.1 :: w.2.map (.int .u8)
/-- A disk at block d: its own blocks W, what is kept, what waits. -/
def Dsk (h : H) (d : Nat) (W : List Nat) (ks : List (List Int)) (ws : List (Int × List Int)) : Prop :=
  ∃ kb kc wb wc, ∃ p r w f : Int, W = d :: (blks kb ++ blks wb) ∧ d ∉ blks kb ∧ d ∉ blks wb ∧ (∀ x ∈ blks kb, x ∉ blks wb) ∧
    Blk h d [.slice kb ks.length kc, .slice wb ws.length wc, .bool false, .bool false, .int .i64 p, .int .i64 r, .int .i64 w, .int .i64 f] ∧
    OwnS h 0 kb ks.length kc 128 (ks.map secV).flatten ∧ OwnS h 0 wb ws.length wc 129 (ws.map waitV).flatten ∧
    (∀ k ∈ ks, isSec k) ∧ (∀ w ∈ ws, 0 ≤ w.1 ∧ w.1 < ks.length ∧ isSec w.2) ∧ ks.length ≤ 4096
def DskUp (h : H) (d : Nat) (W : List Nat) (ks : List (List Int)) (ws : List (Int × List Int)) (h' : H) : Prop :=
  ∃ W', Dsk h' d W' ks ws ∧ Only W h h' ∧ ∀ b ∈ W', b ∈ W ∨ h.size ≤ b
theorem Dsk.keep {M : List Nat} {h h' : H} {d : Nat} {W : List Nat} {ks : List (List Int)} {ws : List (Int × List Int)} (ho : Only M h h') (hn : ∀ x ∈ W, x ∉ M) (hd : Dsk h d W ks ws) : Dsk h' d W ks ws := by
  obtain ⟨kb, kc, wb, wc, p, r, w, f, rfl, h1, h2, h3, hb, hk, hw, h4⟩ := hd
  exact ⟨kb, kc, wb, wc, p, r, w, f, rfl, h1, h2, h3, hb.keep ho (hn d (by simp)), hk.keep ho (fun x hx => hn x (by simp [hx])), hw.keep ho (fun x hx => hn x (by simp [hx])), h4⟩
theorem Dsk.keep0 {h h' : H} {d : Nat} {W : List Nat} {ks : List (List Int)} {ws : List (Int × List Int)} (ho : Only [] h h') (hd : Dsk h d W ks ws) : Dsk h' d W ks ws := hd.keep ho (by simp)
theorem Dsk.lt {h : H} {d : Nat} {W : List Nat} {ks : List (List Int)} {ws : List (Int × List Int)} (hd : Dsk h d W ks ws) : ∀ x ∈ W, x < h.size := by
  obtain ⟨kb, kc, wb, wc, p, r, w, f, rfl, h1, h2, h3, hb, hk, hw, h4⟩ := hd
  intro x hx
  simp only [List.mem_cons, List.mem_append] at hx
  rcases hx with rfl | hx | hx
  · exact hb.lt
  · exact hk.lt x hx
  · exact hw.lt x hx
theorem DskUp.refl {h : H} {d : Nat} {W : List Nat} {ks : List (List Int)} {ws : List (Int × List Int)} (hd : Dsk h d W ks ws) : DskUp h d W ks ws h := ⟨W, hd, Only.refl _ _, fun _ h => .inl h⟩
theorem DskUp.step {h h1 h2 : H} {d : Nat} {W W1 : List Nat} {ks : List (List Int)} {ws : List (Int × List Int)} (ho : Only W h h1) (hb : ∀ b ∈ W1, b ∈ W ∨ h.size ≤ b) (hu : DskUp h1 d W1 ks ws h2) : DskUp h d W ks ws h2 := by
  obtain ⟨W2, hw, ho2, hb2⟩ := hu
  refine ⟨W2, hw, ho.trans' ho2 hb, fun b hb' => ?_⟩
  rcases hb2 b hb' with h3 | h3
  · exact hb b h3
  · exact .inr (Nat.le_trans ho.size h3)

def zeroSec : List Int := List.replicate 128 0
theorem zeroSec_is : isSec zeroSec := ⟨by simp [zeroSec], fun x hx => by rw [List.eq_of_mem_replicate hx]; unfold isByte; omega⟩

set_option maxRecDepth 10000 in
theorem DNew_spec (h : H) (n : Int) (h1 : 1 ≤ n) (h2 : n ≤ 4096) : Fn Pg 24 #[.int .i64 n] h fun v h' => ∃ d W, v = .tuple #[.pointer (some ⟨d, 0, none⟩), .int .i64 0] ∧ Dsk h' d W (List.replicate n.toNat zeroSec) [] ∧ Only [] h h' ∧ ∀ x ∈ W, h.size ≤ x := by
  refine g24 (args := [_]) ?_
  refine CLt.f h1 ?_
  refine CLt.f h2 ?_
  refine Mk.ownN (z := List.replicate 128 (.int .u8 0)) (by omega) (by omega) (by omega) (by simp) fun h3 hown3 ho3 hs3 => ?_
  refine New.blk (cs := [.slice (some ⟨h.size, 0, none⟩) n.toNat n.toNat, .slice none 0 0, .bool false, .bool false, .int .i64 0, .int .i64 0, .int .i64 0, .int .i64 0]) fun h4 hs4 hb4 ho4 => ?_
  refine ⟨h3.size, [h3.size, h.size], rfl, ⟨some ⟨h.size, 0, none⟩, n.toNat, none, 0, 0, 0, 0, 0, rfl, by simp [blks]; omega, by simp [blks], by simp [blks], by simpa using hb4, ?_, OwnS.nil _ _ _, ?_, by simp, by simp; omega⟩, ho3.trans ho4, by simp; omega⟩
  · have := hown3.keep0 ho4
    rw [List.length_replicate, List.map_replicate]
    have hz : secV zeroSec = List.replicate 128 (.int .u8 0) := by simp [secV, zeroSec]
    rw [hz]
    exact this.anylo fun _ _ => Nat.zero_le _
  · intro k hk
    rw [List.eq_of_mem_replicate hk]
    exact zeroSec_is

theorem DLen_spec (h : H) (d : Nat) (W : List Nat) (ks : List (List Int)) (ws : List (Int × List Int)) (hd : Dsk h d W ks ws) : Fn Pg 44 #[.pointer (some ⟨d, 0, none⟩)] h fun v h' => v = .int .i64 ks.length ∧ h' = h := by
  obtain ⟨kb, kc, wb, wc, p, r, w, f, rfl, h1, h2, h3, hb, hk, hw, h4⟩ := hd
  refine g44 (args := [_]) ?_
  refine Ld.blk hb rfl ?_
  exact ⟨rfl, rfl⟩
theorem Dmay_spec (h : H) (d : Nat) (W : List Nat) (ks : List (List Int)) (ws : List (Int × List Int)) (i : Int) (hd : Dsk h d W ks ws) : Fn Pg 71 #[.pointer (some ⟨d, 0, none⟩), .int .i64 i] h fun v h' => v = .bool (decide (0 ≤ i ∧ i < ks.length)) ∧ h' = h := by
  obtain ⟨kb, kc, wb, wc, p, r, w, f, rfl, h1, h2, h3, hb, hk, hw, h4⟩ := hd
  refine g71 (args := [_, _]) ?_
  refine CLe.mk (fun h5 => ?_) (fun h5 => ?_)
  · refine Ld.blk hb rfl ?_
    refine CLt.mk (fun h6 => ?_) (fun h6 => ?_)
    · exact ⟨by rw [decide_eq_true ⟨h5, h6⟩]; rfl, rfl⟩
    · exact ⟨by rw [decide_eq_false (by omega)]; rfl, rfl⟩
  · exact ⟨by rw [decide_eq_false (by omega)]; rfl, rfl⟩
theorem Dstep_spec (h : H) (d : Nat) (W : List Nat) (ks : List (List Int)) (ws : List (Int × List Int)) (hd : Dsk h d W ks ws) : Fn Pg 72 #[.pointer (some ⟨d, 0, none⟩)] h fun v h' => v = .bool true ∧ h' = h := by
  obtain ⟨kb, kc, wb, wc, p, r, w, f, rfl, h1, h2, h3, hb, hk, hw, h4⟩ := hd
  refine g72 (args := [_]) ?_
  refine Ld.blk hb rfl ?_
  refine Ld.blk hb rfl ?_
  exact ⟨rfl, rfl⟩

theorem waits_len {ks : List (List Int)} {ws : List (Int × List Int)} (h : ∀ w ∈ ws, 0 ≤ w.1 ∧ w.1 < ks.length ∧ isSec w.2) : ∀ l ∈ ws.map waitV, l.length = 129 := by
  intro l hl
  obtain ⟨w, hw, rfl⟩ := List.mem_map.1 hl
  simp [waitV, (h w hw).2.2.1]
theorem kept_len {ks : List (List Int)} (h : ∀ k ∈ ks, isSec k) : ∀ l ∈ ks.map secV, l.length = 128 := by
  intro l hl
  obtain ⟨k, hk, rfl⟩ := List.mem_map.1 hl
  simp [secV, (h k hk).1]

theorem sized_one {sz : Nat} {v : Value} {p : Prop} (hl : (cellsOf v).length = sz) (hp : p) : sized sz [v] p := by
  simp only [sized]
  subst hl
  rw [Nat.beq_refl]
  exact hp
theorem sized_new {sz T : Nat} {v : Value} {h : H} {cs : List Value} {k : Nat → H → Prop} (hc : cellsOf v = cs) (hl : cs.length = sz) (hk : New h (.cells cs.toArray T) k) : sized sz [v] (New h (.cells ([v].flatMap cellsOf).toArray T) k) := by
  subst hc
  refine sized_one hl ?_
  simpa using hk
theorem one_wait {w : Int × List Int} : ∀ v ∈ waitV w, v.oneCell' = true := by
  intro v hv
  rcases List.mem_cons.1 hv with rfl | hv
  · rfl
  · exact one_int v hv
theorem Fil.to {e : Env} {z : List Value} {off sz : Nat} {x : X} {ps : List (Nat × Nat × X)} {k : List Value → Prop} {v : Value} (a b z' : List Value) (hx : e.ev x = v) (hs : (cellsOf v).length = sz) (hz : z = a ++ b) (ha : a.length = off) (hb : sz ≤ b.length)
    (hz' : a ++ cellsOf v ++ b.drop sz = z') (hk : Fil e z' ps k) : Fil e z ((off, sz, x) :: ps) k := Fil.cons a b hx hs hz ha hb (by rw [hz']; exact hk)
set_option maxRecDepth 10000 in
theorem DWrite_spec (h : H) (d : Nat) (W : List Nat) (ks : List (List Int)) (ws : List (Int × List Int)) (i : Int) (base : Option Addr) (n c : Nat) (bs : List Int) (hd : Dsk h d W ks ws) (hi : 0 ≤ i ∧ i < ks.length) (hr : Bytes h base n bs) (hs : isSec bs) (hws : ws.length ≤ 2 ^ 30) :
    Fn Pg 45 #[.pointer (some ⟨d, 0, none⟩), .int .i64 i, .slice base n c] h fun v h' => v = .int .i64 0 ∧ DskUp h d W ks (ws ++ [(i, bs)]) h' := by
  have hl := hr.1
  have hl2 := hs.1
  refine g45 (args := [_, _, _]) ?_
  refine (Dmay_spec h d W ks ws i hd).use ?_
  rintro v h1 ⟨rfl, rfl⟩
  rw [decide_eq_true hi]
  refine CNe.f (by omega) ?_
  refine (Dstep_spec h1 d W ks ws hd).use ?_
  rintro v h2 ⟨rfl, rfl⟩
  obtain ⟨kb, kc, wb, wc, p, r, w, f, rfl, g1, g2, g3, hb, hk, hw, g4, g5, g6⟩ := hd
  refine Ld.blk hb rfl ?_
  refine HeldH.mk [] ?_
  refine LdM.mk (by simp) (Ld.blk hb rfl ?_)
  obtain ⟨ad, rfl⟩ : ∃ ad, base = some ad := by
    cases base with
    | none =>
      have := hr.2
      simp only [Rds, List.map_eq_nil_iff] at this
      subst this
      simp at hl2
    | some ad => exact ⟨ad, rfl⟩
  refine S2a.mk (by omega) ?_
  refine LdNM.mk (by simp) (LdN.row hr.2 (by simpa using hl2) ?_)
  refine Fil.to [] (.int .i64 0 :: List.replicate 128 (.int .u8 0)) (.int .i64 i :: List.replicate 128 (.int .u8 0)) rfl rfl rfl rfl (by simp) rfl ?_
  refine Fil.to [.int .i64 i] (List.replicate 128 (.int .u8 0)) (waitV (i, bs)) rfl (by show (bs.map (Value.int .u8)).length = 128; simpa using hl2) rfl rfl (by simp) (by show [Value.int .i64 i] ++ bs.map (Value.int .u8) ++ _ = _; simp [waitV]) ?_
  refine Fil.nil ?_
  refine sized_new (cs := waitV (i, bs)) rfl (by simp [waitV, hl2]) ?_
  refine New.blk (cs := waitV (i, bs)) fun h3 hs3 hb3 ho3 => ⟨ho3, ?_⟩
  have hkl := hk.lt
  have hwl := hw.lt
  have hbl := hb.lt
  refine App.own (hw.keep0 ho3) hb3.row (by simp [waitV, hl2]) one_wait (by decide) rfl (by omega) (by decide) (Nat.zero_le _) fun h4 wb' wc' hown4 ho4 hbl4 => ?_
  have hb4 := (hb.keep ho3 (by simp)).keep ho4 g2
  refine St.blk hb4 (by simp) rfl fun h5 hb5 ho5 _ => ?_
  refine (IAdd_spec h5 d 6 _ w 1 hb5 rfl).use ?_
  rintro v h6 ⟨⟨z, rfl, _, hb6⟩, ho6⟩
  have s3 := ho3.size
  have s4 := ho4.size
  have hdn : ∀ x ∈ blks wb', x ≠ d := fun x hx he => by
    rcases hbl4 x hx with h7 | h7
    · exact g2 (he ▸ h7)
    · omega
  have hdk : ∀ x ∈ blks kb, x ∉ blks wb := g3
  have hk4 := (hk.keep ho3 (by simp)).keep ho4 hdk
  have hk6 := (hk4.keep ho5 (fun x hx h7 => g1 (by simpa using (by simpa using h7 : x = d) ▸ hx))).keep ho6 (fun x hx h7 => g1 (by simpa using (by simpa using h7 : x = d) ▸ hx))
  have hw6 := (hown4.keep ho5 (fun x hx h7 => hdn x hx (by simpa using h7))).keep ho6 (fun x hx h7 => hdn x hx (by simpa using h7))
  refine ⟨rfl, d :: (blks kb ++ blks wb'), ⟨kb, kc, wb', wc', p, r, z, f, rfl, g1, fun h7 => hdn d h7 rfl, fun x hx h7 => ?_, ?_, hk6, ?_, g4, ?_, g6⟩, ?_, ?_⟩
  · rcases hbl4 x h7 with h8 | h8
    · exact g3 x hx h8
    · have := hkl x hx; omega
  · simpa using hb6
  · rw [List.map_append, List.flatten_append, List.length_append]
    simpa using hw6
  · intro w' hw'
    rcases List.mem_append.1 hw' with h7 | h7
    · exact g5 w' h7
    · rw [List.mem_singleton.1 h7]; exact ⟨hi.1, hi.2, hs⟩
  · have e1 : Only (d :: (blks kb ++ blks wb)) h2 h4 := ho3.nil.trans (ho4.mono (by simp; exact fun x hx => .inr (.inr hx)))
    exact (e1.trans (ho5.mono (by simp))).trans (ho6.mono (by simp))
  · intro b hb'
    simp only [List.mem_cons, List.mem_append] at hb' ⊢
    rcases hb' with h7 | h7 | h7
    · exact .inl (.inl h7)
    · exact .inl (.inr (.inl h7))
    · rcases hbl4 b h7 with h8 | h8
      · exact .inl (.inr (.inr h8))
      · right; omega

/-- A piece of a slice of pieces: it is read; it is written. -/
theorem OwnS.seg {h : H} {lo : Nat} {base : Option Addr} {n c sz i : Nat} {ls : List (List Value)} (hs : OwnS h lo base n c sz ls.flatten) (hl : ∀ l ∈ ls, l.length = sz) (hn : ls.length = n) (hi : i < n) :
    ∃ b, base = some ⟨b, 0, none⟩ ∧ Row h ⟨b, i * sz, none⟩ (ls.getD i []) ∧ ∀ (new : List Value) (k : H → Prop), new.length = sz → (∀ v ∈ new, v.oneCell' = true) →
      (∀ h', OwnS h' lo base n c sz (ls.set i new).flatten → Only [b] h h' → h'.size = h.size → k h') → StN h ⟨b, i * sz, none⟩ new k := by
  obtain ⟨b, rest, rfl, h1, h2, h3, h4⟩ := hs.blk hi
  have hi' : i < ls.length := by omega
  obtain ⟨a, cc, e1, e2, e3⟩ := flat_split hl hi'
  have hg : ls.getD i [] = ls[i] := by rw [List.getD_eq_getElem?_getD, List.getElem?_eq_getElem hi']; rfl
  have hbb : Blk h b (a ++ (ls[i] ++ (cc ++ rest))) := by
    rw [e1] at h3
    simpa using h3
  refine ⟨b, rfl, by rw [hg]; exact Blk.seg hbb e2, fun new k hnl hv hk => ?_⟩
  refine StN.seg hbb e2 (by rw [hnl, hl _ (List.getElem_mem hi')]) hv fun h' hb' ho hsz => ?_
  refine hk h' ⟨?_, .inr ⟨b, rest, rfl, h1, h2, by rw [e3]; simpa using hb', ?_⟩⟩ ho hsz
  · rw [flat_len (sz := sz), List.length_set, hn]
    intro l hl'
    rcases List.mem_or_eq_of_mem_set hl' with h | h
    · exact hl l h
    · rw [h]; exact hnl
  · rw [e3]
    rw [e1] at h4
    have := hl _ (List.getElem_mem hi')
    simp only [List.length_append] at h4 ⊢
    omega

def flushed (ks : List (List Int)) (ws : List (Int × List Int)) : List (List Int) := ws.foldl (fun ks w => ks.set w.1.toNat w.2) ks
theorem flushed_len : ∀ (ws : List (Int × List Int)) (ks : List (List Int)), (flushed ks ws).length = ks.length := by
  intro ws
  induction ws with
  | nil => intro ks; rfl
  | cons w r ih => intro ks; rw [flushed, List.foldl_cons]; exact (ih _).trans (by simp)
theorem flushed_sec : ∀ (ws : List (Int × List Int)) (ks : List (List Int)), (∀ k ∈ ks, isSec k) → (∀ w ∈ ws, isSec w.2) → ∀ k ∈ flushed ks ws, isSec k := by
  intro ws
  induction ws with
  | nil => intro ks h _; exact h
  | cons w r ih =>
    intro ks h1 h2
    rw [flushed, List.foldl_cons]
    refine ih _ (fun k hk => ?_) fun x hx => h2 x (by simp [hx])
    rcases List.mem_or_eq_of_mem_set hk with h | h
    · exact h1 k h
    · rw [h]; exact h2 w (by simp)
theorem flushed_snoc (ks : List (List Int)) (ws : List (Int × List Int)) (w : Int × List Int) : flushed ks (ws ++ [w]) = (flushed ks ws).set w.1.toNat w.2 := by
  simp [flushed, List.foldl_append]

set_option maxRecDepth 10000 in
theorem DFlush_spec (h : H) (d : Nat) (W : List Nat) (ks : List (List Int)) (ws : List (Int × List Int)) (hd : Dsk h d W ks ws) (hws : ws.length ≤ 2 ^ 30) :
    Fn Pg 46 #[.pointer (some ⟨d, 0, none⟩)] h fun v h' => v = .int .i64 0 ∧ DskUp h d W (flushed ks ws) [] h' := by
  refine g46 (args := [_]) ?_
  refine (Dstep_spec h d W ks ws hd).use ?_
  rintro v h1 ⟨rfl, rfl⟩
  obtain ⟨kb, kc, wb, wc, p, r, w, f, rfl, g1, g2, g3, hb, hk, hw, g4, g5, g6⟩ := hd
  refine Ld.blk hb rfl ?_
  refine LoopH.mk (σ := Nat) (fun i => [(13, .int .i64 i)]) (fun i h2 => i ≤ ws.length ∧ Only (blks kb) h1 h2 ∧ OwnS h2 0 kb ks.length kc 128 ((flushed ks (ws.take i)).map secV).flatten) (fun i _ => ws.length - i) 0 ⟨rfl, trivial⟩ ⟨by omega, Only.refl _ _, hk⟩ ?_
  rintro i h2 g ⟨hi, ho2, hk2⟩
  have hb2 := hb.keep ho2 g1
  have hw2 := hw.keep ho2 (fun x hx hx2 => g3 x hx2 hx)
  refine CLt.mk (fun hlt => ?_) (fun hge => ?_)
  · have hiw : i < ws.length := by omega
    have hwi := g5 _ (List.getElem_mem hiw)
    obtain ⟨bw, rfl, hrow, _⟩ := OwnS.seg hw2 (waits_len g5) (by simp) hiw
    have hgd : (ws.map waitV).getD i [] = waitV ws[i] := by
      rw [List.getD_eq_getElem?_getD, List.getElem?_map, List.getElem?_eq_getElem hiw]; rfl
    rw [hgd] at hrow
    refine Ix.own (j := i * 129) (by omega) (by omega) rfl (by omega) ?_
    refine LdN.row hrow (by simp [waitV, hwi.2.2.1]) ?_
    refine New.blk (cs := .int .i64 0 :: List.replicate 128 (.int .u8 0)) fun h3 hs3 hb3 ho3 => ?_
    refine ⟨by show (waitV ws[i]).length = 129; simp [waitV, hwi.2.2.1], ?_⟩
    refine StN.blk (new := waitV ws[i]) hb3 (by simp [waitV, hwi.2.2.1]) one_wait fun h4 hb4 ho4 hs4 => ?_
    have ho14 : Only (blks kb) h1 h4 := (ho2.trans ho3.nil).trans' ho4 (by simp; right; exact ho2.size)
    have hb4d := hb.keep ho14 g1
    have hk4 := (hk2.keep0 ho3).keep ho4 (fun x hx h7 => by have := hk2.lt x hx; simp at h7; omega)
    refine Ld.blk hb4d rfl ?_
    refine Ld.blk (v := .int .i64 ws[i].1) hb4 rfl ?_
    refine LdN.row (vs := ws[i].2.map (.int .u8)) (Row.drop (vs := [.int .i64 ws[i].1]) (us := ws[i].2.map (.int .u8)) hb4.row) (by simp [hwi.2.2.1]) ?_
    have hsec := flushed_sec (ws.take i) ks g4 (fun x hx => (g5 x (List.mem_of_mem_take hx)).2.2)
    have hfl : (flushed ks (ws.take i)).length = ks.length := flushed_len _ _
    obtain ⟨bk, rfl, _, hst⟩ := OwnS.seg (i := ws[i].1.toNat) hk4 (kept_len hsec) (by simp [hfl]) (by omega)
    refine Ix.own (j := ws[i].1.toNat * 128) (by omega) (by omega) rfl rfl ?_
    refine ⟨by show (ws[i].2.map (Value.int .u8)).length = 128; simp [hwi.2.2.1], ?_⟩
    refine hst (secV ws[i].2) _ (by simp [secV, hwi.2.2.1]) one_int fun h5 hk5 ho5 hs5 => ?_
    refine Ar.fit64 (by omega) ?_
    refine ⟨i + 1, ⟨rfl, trivial⟩, ⟨by omega, ho14.trans (ho5.mono (by simp [blks])), ?_⟩, by omega⟩
    rw [List.take_succ_eq_append_getElem hiw, flushed_snoc, List.map_set]
    exact hk5
  · have : i = ws.length := by omega
    subst this
    rw [List.take_of_length_le (Nat.le_refl _)] at hk2
    refine St.blk hb2 (by simp) rfl fun h3 hb3 ho3 _ => ?_
    refine (IAdd_spec h3 d 7 _ f 1 hb3 rfl).use ?_
    rintro v h4 ⟨⟨z, rfl, _, hb4⟩, ho4⟩
    have hnd : ∀ x ∈ blks kb, x ∉ [d] := fun x hx h7 => g1 (by simpa using (by simpa using h7 : x = d) ▸ hx)
    have hk4 := (hk2.keep ho3 hnd).keep ho4 hnd
    have hfl : (flushed ks ws).length = ks.length := flushed_len _ _
    refine ⟨rfl, d :: (blks kb ++ blks none), ⟨kb, kc, none, 0, p, r, w, z, rfl, g1, by simp [blks], by simp [blks], ?_, ?_, OwnS.nil _ _ _, ?_, by simp, by rw [hfl]; exact g6⟩, ?_, ?_⟩
    · rw [hfl]; simpa using hb4
    · rw [hfl]; exact hk4
    · exact flushed_sec ws ks g4 fun x hx => (g5 x hx).2.2
    · have e1 : Only (d :: (blks kb ++ blks wb)) h1 h2 := ho2.mono (by simp; exact fun x hx => .inr (.inl hx))
      exact (e1.trans (ho3.mono (by simp))).trans (ho4.mono (by simp))
    · intro b hb'
      simp only [blks, List.append_nil, List.mem_cons] at hb'
      left
      simp only [List.mem_cons, List.mem_append]
      exact hb'.imp id .inl

set_option maxRecDepth 10000 in
/-- All that is kept, as an image. -/
theorem DImage_spec (h : H) (d : Nat) (W : List Nat) (ks : List (List Int)) (ws : List (Int × List Int)) (hd : Dsk h d W ks ws) :
    Fn Pg 26 #[.pointer (some ⟨d, 0, none⟩)] h fun v h' => ∃ b c, v = .slice b ks.flatten.length c ∧ OwnS h' h.size b ks.flatten.length c 1 (ks.flatten.map (.int .u8)) ∧ Only [] h h' := by
  obtain ⟨kb, kc, wb, wc, p, r, w, f, rfl, g1, g2, g3, hb, hk, hw, g4, g5, g6⟩ := hd
  refine g26 (args := [_]) ?_
  refine Ld.blk hb rfl ?_
  refine LoopH.mk (σ := Nat × Option Addr × Nat) (fun (i, b, c) => [(11, .int .i64 i), (3, .slice b (i * 128) c)]) (fun (i, b, c) h2 => i ≤ ks.length ∧ Only [] h h2 ∧ OwnS h2 h.size b (i * 128) c 1 ((ks.take i).flatten.map (.int .u8))) (fun (i, _, _) _ => ks.length - i) (0, none, 0) ⟨rfl, rfl, trivial⟩ ⟨by omega, Only.refl _ _, OwnS.nil _ _ _⟩ ?_
  rintro ⟨i, b, c⟩ h2 g ⟨hi, ho2, hown2⟩
  have hlen : ∀ l ∈ ks, l.length = 128 := fun l hl => (g4 l hl).1
  refine CLt.mk (fun hlt => ?_) (fun hge => ?_)
  · have hik : i < ks.length := by omega
    have hki := g4 _ (List.getElem_mem hik)
    obtain ⟨bk, rfl, hrow, _⟩ := OwnS.seg (hk.keep0 ho2) (kept_len g4) (by simp) hik
    have hgd : (ks.map secV).getD i [] = secV ks[i] := by
      rw [List.getD_eq_getElem?_getD, List.getElem?_map, List.getElem?_eq_getElem hik]; rfl
    rw [hgd] at hrow
    refine Ix.own (j := i * 128) (by omega) (by omega) rfl (by omega) ?_
    refine LdN.row hrow (by simp [secV, hki.1]) ?_
    refine New.blk (cs := List.replicate 128 (.int .u8 0)) fun h3 hs3 hb3 ho3 => ?_
    refine ⟨by show (secV ks[i]).length = 128; simp [secV, hki.1], ?_⟩
    refine StN.blk (new := secV ks[i]) hb3 (by simp [secV, hki.1]) one_int fun h4 hb4 ho4 hs4 => ?_
    refine Sl.mk (by omega) (by omega) (by omega) (by omega) ?_
    have ho14 : Only [] h h4 := (ho2.trans ho3).trans' ho4 (by simp; exact ho2.size)
    have hown4 := (hown2.keep0 ho3).keep ho4 (fun x hx h7 => by have := hown2.lt x hx; simp at h7; omega)
    refine App.own (new := secV ks[i]) hown4 hb4.row (by simp [secV, hki.1]) one_int (by decide) rfl (by omega) (by decide) ho14.size fun h5 b5 c5 hown5 ho5 _ => ?_
    refine Ar.fit64 (by omega) ?_
    refine ⟨(i + 1, b5, c5), ⟨rfl, by show Value.slice _ _ _ = Value.slice _ _ _; rw [Nat.succ_mul]; rfl, trivial⟩, ⟨by omega, ho14.trans' ho5 (fun x hx => .inr (hown4.lo x hx)), ?_⟩, by show ks.length - (i + 1) < ks.length - i; omega⟩
    rw [List.take_succ_eq_append_getElem hik, List.flatten_append, List.map_append, Nat.succ_mul]
    simpa [secV] using hown5
  · have : i = ks.length := by omega
    subst this
    rw [List.take_of_length_le (Nat.le_refl _)] at hown2
    rw [flat_len hlen]
    exact ⟨b, c, rfl, hown2, ho2⟩
end Go.Proofs.YtiabgojnljfmhaaGreat.Ov.W
