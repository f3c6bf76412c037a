/-
  block.All, AND THE LAW NeedBlocks. No condition beyond each statement's own.
-/
import Derived.Test.YtaffgkgaoiolbaaPD
namespace Go.Proofs.Ytaffgkgaoiolbaa.Ov.W

theorem own_dis {h : H} {lo : Nat} {base : Option Addr} {n c sz : Nat} {vs : List Value} (hs : OwnS h lo base n c sz vs) {x : Nat} (hx : h.size ≤ x) : x ∉ blks base := fun hm => by have := hs.lt x hm; omega

theorem All_spec (h : H) (p t : Nat) (base : Option Addr) (n c : Nat) (xs : List Int) (hc : Cdr h p t) (hr : Ints h base n xs) (hnc : n ≤ c) (hx : ∀ x ∈ xs, okS x) (hd : ∀ x ∈ blks base, x ≠ p ∧ x ≠ t) (hn : n ≤ 2 ^ 36) :
    Fn Pg 6 #[.pointer (some ⟨p, 0, none⟩), .slice base n c] h fun v h' => ∃ b1 k c1 b2 c2, v = .tuple #[.slice b1 k c1, .slice b2 k c2, .int .i64 0] ∧ k ≤ (n + 39) / 40 ∧ Only [p, t] h h' ∧ Cdr h' p t := by
  have hclt := hc.lt
  have hrl := Rds.lt hr.2
  refine g6 (args := [_, _]) ?_
  refine (right_spec h base n c xs hr hx (by omega)).use ?_
  rintro v h1 ⟨rfl, rfl⟩
  refine LoopH.mk (σ := (Option Addr × Nat × Nat × List Int) × Nat × (Option Addr × Nat × List Value) × (Option Addr × Nat × List Int))
    (fun ((b, m, cc, _), k, (b1, c1, _), (b2, c2, _)) => [(1, .slice b m cc), (7, .slice b1 k c1), (8, .slice b2 k c2)])
    (fun ((b, m, cc, ys), k, (b1, c1, vs), (b2, c2, ms)) h2 => Ints h2 b m ys ∧ m ≤ cc ∧ (∀ x ∈ ys, okS x) ∧ (∀ x ∈ blks b, x ∈ blks base) ∧ m ≤ n ∧ k + (m + 39) / 40 ≤ (n + 39) / 40 ∧
      OwnS h2 h1.size b1 k c1 1 vs ∧ OwnS h2 h1.size b2 k c2 1 (ms.map (.int .i64)) ∧ (∀ x ∈ blks b1, x ∉ blks b2) ∧ Only [p, t] h1 h2 ∧ Cdr h2 p t)
    (fun ((_, m, _, _), _, _, _) _ => m) ((base, n, c, xs), 0, (none, 0, []), (none, 0, [])) ⟨rfl, rfl, rfl, trivial⟩
    ⟨hr, hnc, hx, fun _ h => h, by omega, by omega, OwnS.nil _ _ _, OwnS.nil _ _ _, by simp [blks], Only.refl _ _, hc⟩ ?_
  rintro ⟨⟨b, m, cc, ys⟩, k, ⟨b1, c1, vs⟩, ⟨b2, c2, ms⟩⟩ h2 g ⟨hr2, hmc, hy, hbb, hmn, hk, hown1, hown2, hdis, ho2, hc2⟩
  have hyl := hr2.1
  refine CLt.mk (fun hlt => ?_) (fun hge => ?_)
  rotate_left
  · exact ⟨b1, k, c1, b2, c2, rfl, by omega, ho2, hc2⟩
  refine (Pack_spec h2 p t b m cc ys hc2 hr2 hmc hy (by omega) (by omega)).use ?_
  rintro v h3 ⟨b5, c5, q, bs, kd, l, rfl, hown5, hc3, ho3, hq1, hq2, hq3, hq4, hfr, hbs, hkd⟩
  refine CNe.f rfl ?_
  have pt : ∀ {bb : Option Addr} {nn dd sz : Nat} {ws : List Value}, OwnS h2 h1.size bb nn dd sz ws → ∀ x ∈ blks bb, x ∉ [p, t] := fun ho x hx => by have := ho.lo x hx; simp; omega
  have hown1' := hown1.keep ho3 (pt hown1)
  have hown2' := hown2.keep ho3 (pt hown2)
  have hq46 : (k + 1) * 24 ≤ 2 ^ 46 := by omega
  have hbase : ∀ x ∈ blks b, x ∉ [p, t] ∧ x < h1.size := fun x hx => ⟨by simpa using hd x (hbb x hx), hrl x (hbb x hx)⟩
  refine Sl.suf (vs := ys.map (.int .i64)) (hr2.2.keep ho3 (fun x hx => (hbase x hx).1)) (by simpa using hyl) (by omega) (by omega) (by omega) fun b6 hr6 hb6 _ => ?_
  rw [show ((q : Int)).toNat = q from by omega] at hr6 ⊢
  have hr6' : Ints h3 b6 (m - q) (ys.drop q) := ⟨by simp; omega, by simpa [List.map_drop] using hr6⟩
  have h13 : Only [p, t] h1 h3 := ho2.trans ho3
  have h31 : h1.size ≤ h3.size := h13.size
  -- the end, whatever the order was
  have fin : ∀ (h9 : H) (b7 : Option Addr) (c7 : Nat) (b8 : Option Addr) (c8 : Nat), OwnS h9 h1.size b7 (k + 1) c7 1 (vs ++ [.slice b5 128 c5]) → OwnS h9 h1.size b8 (k + 1) c8 1 ((ms ++ [(q : Int)]).map (.int .i64)) → (∀ x ∈ blks b7, x ∉ blks b8) → Only (blks b1 ++ blks b2) h3 h9 →
      (Ints h9 b6 (m - q) (ys.drop q) ∧ m - q ≤ cc - q ∧ (∀ x ∈ ys.drop q, okS x) ∧ (∀ x ∈ blks b6, x ∈ blks base) ∧ m - q ≤ n ∧ k + 1 + (m - q + 39) / 40 ≤ (n + 39) / 40 ∧
      OwnS h9 h1.size b7 (k + 1) c7 1 (vs ++ [.slice b5 128 c5]) ∧ OwnS h9 h1.size b8 (k + 1) c8 1 ((ms ++ [(q : Int)]).map (.int .i64)) ∧ (∀ x ∈ blks b7, x ∉ blks b8) ∧ Only [p, t] h1 h9 ∧ Cdr h9 p t) := by
    intro h9 b7 c7 b8 c8 h1o h2o hd' ho9
    have low : ∀ x, x < h1.size → x ∉ blks b1 ++ blks b2 := fun x hx hm => by
      rcases List.mem_append.1 hm with h | h
      · have := hown1.lo _ h; omega
      · have := hown2.lo _ h; omega
    refine ⟨hr6'.keep ho9 fun x hx => low x (hbase x (hb6 x hx)).2, by omega, fun x hx => hy x (List.mem_of_mem_drop hx), fun x hx => hbb x (hb6 x hx), by omega, by omega, h1o, h2o, hd', h13.trans' ho9 fun x hx => .inr ?_, hc3.keep ho9 (low _ hclt.1) (low _ hclt.2)⟩
    rcases List.mem_append.1 hx with h | h
    · exact hown1.lo x h
    · exact hown2.lo x h
  -- the two appends, their elements made ahead
  have two : ∀ (hX : H) (ra rb T T' : Nat) (K : Value → Value → H → Prop), Only [] h3 hX → Blk hX ra [.slice b5 128 c5] → Blk hX rb [.int .i64 (q : Int)] → h3.size ≤ rb →
      (∀ (h9 : H) (b7 : Option Addr) (c7 : Nat) (b8 : Option Addr) (c8 : Nat), OwnS h9 h1.size b7 (k + 1) c7 1 (vs ++ [.slice b5 128 c5]) → OwnS h9 h1.size b8 (k + 1) c8 1 ((ms ++ [(q : Int)]).map (.int .i64)) → (∀ x ∈ blks b7, x ∉ blks b8) → Only (blks b1 ++ blks b2) h3 h9 → K (.slice b7 (k + 1) c7) (.slice b8 (k + 1) c8) h9) →
      App hX T 1 24 [.slice none 0 0] b1 k c1 (some ⟨ra, 0, none⟩) 1 fun v h => App h T' 1 8 [.int .i64 0] b2 k c2 (some ⟨rb, 0, none⟩) 1 fun v2 h => K v v2 h := by
    intro hX ra rb T T' K hoX hba hbb' hrb hK
    refine App.own (hown1'.keep0 hoX) hba.row rfl (by simp [Value.oneCell']) (by decide) rfl hq46 (by decide) (Nat.le_trans h31 hoX.size) fun h5 b7 c7 hown7 ho5 hbl7 => ?_
    have d2 : ∀ x ∈ blks b2, x ∉ blks b1 := fun x hx hm => hdis x hm hx
    refine App.own ((hown2'.keep0 hoX).keep ho5 d2) (hbb'.keep ho5 (own_dis hown1' hrb)).row rfl (by simp [Value.oneCell']) (by decide) rfl (by omega) (by decide) (Nat.le_trans h31 (Nat.le_trans hoX.size ho5.size)) fun h6 b8 c8 hown8 ho6 hbl8 => ?_
    refine hK h6 b7 c7 b8 c8 (hown7.keep ho6 fun x hx => ?_) (by rw [List.map_append]; exact hown8) ?_ ?_
    · rcases hbl7 x hx with h | h
      · exact hdis x h
      · rw [h]; exact own_dis hown2' hoX.size
    · intro x h7 h8
      have hl7 := hown7.lt x h7
      rcases hbl8 x h8 with g8 | g8
      · rcases hbl7 x h7 with g7 | g7
        · exact hdis x g7 g8
        · have := hown2'.lt x g8; have := hoX.size; omega
      · omega
    · exact (hoX.nil.trans (ho5.mono (by simp; exact fun x h => .inl h))).trans (ho6.mono (by simp; exact fun x h => .inr h))
  refine ⟨?_, ?_⟩
  · refine New.blk (cs := [.slice b5 128 c5]) fun h4 hs4 hb4 ho4 => ⟨?_, ?_⟩
    · refine App.own (hown1'.keep0 ho4) hb4.row rfl (by simp [Value.oneCell']) (by decide) rfl hq46 (by decide) (Nat.le_trans h31 ho4.size) fun h5 b7 c7 hown7 ho5 hbl7 => ?_
      refine New.blk (cs := [.int .i64 (q : Int)]) fun h6 hs6 hb6' ho6 => ?_
      have d2 : ∀ x ∈ blks b2, x ∉ blks b1 := fun x hx hm => hdis x hm hx
      have s5 := ho5.size
      refine App.own (((hown2'.keep0 ho4).keep ho5 d2).keep0 ho6) hb6'.row rfl (by simp [Value.oneCell']) (by decide) rfl (by omega) (by decide) (by omega) fun h7 b8 c8 hown8 ho7 hbl8 => ?_
      refine ⟨((b6, m - q, cc - q, ys.drop q), k + 1, (b7, c7, _), (b8, c8, ms ++ [(q : Int)])), ⟨rfl, rfl, rfl, trivial⟩, fin h7 b7 c7 b8 c8 ((hown7.keep0 ho6).keep ho7 fun x hx => ?_) (by rw [List.map_append]; exact hown8) ?_ ?_, by show m - q < m; omega⟩
      · rcases hbl7 x hx with h | h
        · exact hdis x h
        · rw [h]; exact own_dis hown2' ho4.size
      · intro x h7' h8
        have hl7 := hown7.lt x h7'
        rcases hbl8 x h8 with g8 | g8
        · rcases hbl7 x h7' with g7 | g7
          · exact hdis x g7 g8
          · have := hown2'.lt x g8; have := ho4.size; omega
        · have := ho6.size; omega
      · exact ((ho4.nil.trans (ho5.mono (by simp; exact fun x h => .inl h))).trans ho6.nil).trans (ho7.mono (by simp; exact fun x h => .inr h))
    · refine New.blk (cs := [.int .i64 (q : Int)]) fun h5 hs5 hb5 ho5 => ?_
      refine two h5 _ _ _ _ _ (ho4.trans ho5) (hb4.keep ho5 (by simp)) hb5 ho4.size fun h9 b7 c7 b8 c8 a1 a2 a3 a4 => ?_
      exact ⟨((b6, m - q, cc - q, ys.drop q), k + 1, (b7, c7, _), (b8, c8, ms ++ [(q : Int)])), ⟨rfl, rfl, rfl, trivial⟩, fin h9 b7 c7 b8 c8 a1 a2 a3 a4, by show m - q < m; omega⟩
  · refine New.blk (cs := [.int .i64 (q : Int)]) fun h4 hs4 hb4 ho4 => ?_
    refine New.blk (cs := [.slice b5 128 c5]) fun h5 hs5 hb5 ho5 => ?_
    refine two h5 _ _ _ _ _ (ho4.trans ho5) hb5 (hb4.keep ho5 (by simp)) (Nat.le_refl _) fun h9 b7 c7 b8 c8 a1 a2 a3 a4 => ?_
    exact ⟨((b6, m - q, cc - q, ys.drop q), k + 1, (b7, c7, _), (b8, c8, ms ++ [(q : Int)])), ⟨rfl, rfl, rfl, trivial⟩, fin h9 b7 c7 b8 c8 a1 a2 a3 a4, by show m - q < m; omega⟩
end Go.Proofs.Ytaffgkgaoiolbaa.Ov.W
