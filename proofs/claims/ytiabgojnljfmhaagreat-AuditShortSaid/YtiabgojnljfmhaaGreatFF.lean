/-
  WHAT A DISK WITHOUT A ROOT HAS: slices.Sort and Compact of nothing, and package walk, as far as there is no root. No condition beyond each statement's own.
-/
import Derived.Test.YtiabgojnljfmhaaGreatFC
import Derived.Test.YtiabgojnljfmhaaGreatR3
namespace Go.Proofs.YtiabgojnljfmhaaGreat.Ov.W

theorem Len64_spec (h : H) : Fn Pg 165 #[.int .u64 0] h fun v h' => (∃ x, v = .int .i64 x) ∧ h' = h := by
  refine g165 (args := [_]) ?_
  refine CLe.f (by decide) ?_
  refine CLe.f (by decide) ?_
  refine CLe.f (by decide) ?_
  refine Ar.any fun m hm => ?_
  have hm0 : m = 0 := hm
  subst hm0
  refine Raw.idxs (n := 0) (b := 0) (by kernel_rfl) rfl rfl (by decide) (by kernel_rfl) ?_
  refine Ar.any fun m2 hm2 => ?_
  refine Ar.any fun m3 hm3 => ?_
  exact ⟨⟨_, rfl⟩, rfl⟩
theorem Len_spec (h : H) : Fn Pg 136 #[.int .u64 0] h fun v h' => (∃ x, v = .int .i64 x) ∧ h' = h := by
  refine g136 (args := [_]) ?_
  refine (Len64_spec h).use ?_
  rintro v h1 ⟨⟨x, rfl⟩, rfl⟩
  exact ⟨⟨x, rfl⟩, rfl⟩
theorem Ins0_spec (h : H) (b : Option Addr) (c : Nat) : Fn Pg 155 #[.slice b 0 c, .int .i64 0, .int .i64 0] h fun v h' => v = .tuple #[] ∧ h' = h := by
  refine g155 (args := [_, _, _]) ?_
  refine Ar.fit64 (by omega) ?_
  refine LoopH.mk (σ := Unit) (fun _ => [(6, .int .i64 1)]) (fun _ h2 => h2 = h) (fun _ _ => 0) () ⟨rfl, trivial⟩ rfl ?_
  rintro _ h2 g rfl
  refine CLt.f (by decide) ?_
  exact ⟨rfl, rfl⟩
theorem Pdq0_spec (h : H) (b : Option Addr) (c : Nat) (x : Int) : Fn Pg 135 #[.slice b 0 c, .int .i64 0, .int .i64 0, .int .i64 x] h fun v h' => v = .tuple #[] ∧ h' = h := by
  refine g135 (args := [_, _, _, _]) ?_
  refine LoopH.mk (σ := Unit) (fun _ => [(1, .int .i64 0), (2, .int .i64 0)]) (fun _ h2 => h2 = h) (fun _ _ => 0) () ⟨rfl, rfl, trivial⟩ rfl ?_
  rintro _ h2 g rfl
  refine Ar.fit64 (by omega) ?_
  refine CLe.t (by decide) ?_
  refine (Ins0_spec h2 b c).use ?_
  rintro v h3 ⟨rfl, rfl⟩
  exact ⟨rfl, rfl⟩
theorem Sort0_spec (h : H) (b : Option Addr) (c : Nat) : Fn Pg 113 #[.slice b 0 c] h fun v h' => v = .tuple #[] ∧ h' = h := by
  refine g113 (args := [_]) ?_
  refine Ar.any fun m hm => ?_
  have hm0 : m = 0 := hm
  subst hm0
  refine (Len_spec h).use ?_
  rintro v h1 ⟨⟨x, rfl⟩, rfl⟩
  refine (Pdq0_spec h1 b c x).use ?_
  rintro v h2 ⟨rfl, rfl⟩
  exact ⟨rfl, rfl⟩
theorem Compact0_spec (h : H) (b : Option Addr) (c : Nat) : Fn Pg 114 #[.slice b 0 c] h fun v h' => v = .slice b 0 c ∧ h' = h := by
  refine g114 (args := [_]) ?_
  refine CLt.t (by decide) ?_
  exact ⟨rfl, rfl⟩

theorem map_keep {M : List Nat} {h h' : H} {m : Nat} {o : Obj} (ho : Only M h h') (hn : m ∉ M) (hm : h[m]? = some o) : h'[m]? = some o := by
  rw [ho.same m (Array.getElem?_eq_some_iff.1 hm).1 hn, hm]

theorem Reach0_spec (h : H) (p m1 m2 : Nat) (x0 x1 x2 x4 x7 x8 x9 : Value) (hb : Blk h p [x0, x1, x2, .map (some m1), x4, .map (some m2), .slice none 0 0, x7, x8, x9]) (h1 : h[m1]? = some (.map #[] 0)) (h2 : h[m2]? = some (.map #[] 0)) :
    Fn Pg 85 #[.pointer (some ⟨p, 0, none⟩), .int .i64 0] h fun v h' => (∃ b c, v = .slice b 0 c) ∧ Only [] h h' := by
  refine g85 (args := [_, _]) ?_
  refine Ld.blk hb rfl ?_
  refine App.own (OwnS.nil h h.size 1) (show Rds h none [] from rfl) rfl (by simp) (by decide) rfl (by omega) (by decide) (Nat.le_refl _) fun h3 b3 c3 hown3 ho3 _ => ?_
  refine CLt.f (by decide) ?_
  have hb3 := hb.keep ho3 (by simp [blks])
  refine Ld.blk hb3 rfl ?_
  refine Raw.rangeM (by kernel_rfl) rfl (map_keep ho3 (by simp [blks]) h1) fun h4 hs4 hi4 ho4 => ?_
  have ho34 := ho3.trans ho4.nil
  refine LoopH.mk (σ := Unit) (fun _ => [(5, .slice b3 (0 + 0) c3)]) (fun _ h5 => h5 = h4) (fun _ _ => 0) () ⟨rfl, trivial⟩ rfl ?_
  rintro _ h5 g rfl
  refine Raw.next0 rfl hi4 (map_keep ho34 (by simp [blks]) h1) ?_
  refine Ld.blk (hb3.keep ho4 (by simp)) rfl ?_
  refine Raw.rangeM (by kernel_rfl) rfl (map_keep ho34 (by simp [blks]) h2) fun h6 hs6 hi6 ho6 => ?_
  have ho36 := ho34.trans ho6.nil
  refine LoopH.mk (σ := Unit) (fun _ => [(5, .slice b3 (0 + 0) c3)]) (fun _ h7 => h7 = h6) (fun _ _ => 0) () ⟨rfl, trivial⟩ rfl ?_
  rintro _ h7 g7 rfl
  refine Raw.next0 rfl hi6 (map_keep ho36 (by simp [blks]) h2) ?_
  refine (Sort0_spec h7 b3 c3).use ?_
  rintro v h8 ⟨rfl, rfl⟩
  refine (Compact0_spec h8 b3 c3).use ?_
  rintro v h9 ⟨rfl, rfl⟩
  exact ⟨⟨b3, c3, rfl⟩, ho36⟩

/-- A reader of sectors that only reads: what it gives for 0 and 1. -/
def Reads (h : H) (f : FuncId) (first cap : List Value) (i : Int) (xs : List Int) : Prop :=
  ∀ h', Only [] h h' → Fn Pg f ((first ++ [Value.int .i64 i]) ++ cap).toArray h' fun v h'' => Only [] h' h'' ∧ ∃ b n c ok, v = .tuple #[.slice b n c, .bool ok] ∧ Bytes h'' b n xs ∧ n ≤ c

/-- What a superblock without a root leads to. -/
def foundV (s : Sup) (b : Option Addr) (c m : Nat) : List Value := [.int .i64 s.gen, .int .i64 s.life, .int .i64 s.done, .int .i64 s.root, .int .i64 s.cells, .pointer none, .slice none 0 0, .slice none 0 0, .slice b 0 c, .map (some m)]
theorem From0_spec (h : H) (f : FuncId) (first cap : List Value) (n : Int) (xs ys : List Int) (hf : enters Pg f = true) (h0 : Reads h f first cap 0 xs) (h1 : Reads h f first cap 1 ys) (hx : ∀ x ∈ xs, isByte x) (hy : ∀ x ∈ ys, isByte x) (hn : 0 ≤ n ∧ n ≤ 1000000)
    (hroot : ∀ s k, chooseS (unpS xs) (unpS ys) = (some s, k) → s.root = 0 ∧ 0 ≤ s.cells ∧ s.cells ≤ 1024) :
    Fn Pg 50 #[.func (.func f) first.toArray cap.toArray, .int .i64 n] h fun v h' => Only [] h h' ∧ match chooseS (unpS xs) (unpS ys) with
      | (none, _) => v = .tuple #[.pointer none, .bool false]
      | (some s, _) => if n < s.cells + 12 then v = .tuple #[.pointer none, .bool false] else ∃ p b c m, v = .tuple #[.pointer (some ⟨p, 0, none⟩), .bool true] ∧ Blk h' p (foundV s b c m) := by
  refine g50 (args := [_, _]) ?_
  refine Raw.callv hf rfl rfl (((h0 h (Only.refl _ _))).use ?_)
  rintro v h2 ⟨ho2, b2, n2, c2, ok2, rfl, hr2, hc2⟩
  refine Raw.callv hf rfl rfl ((h1 h2 ho2).use ?_)
  rintro v h3 ⟨ho3, b3, n3, c3, ok3, rfl, hr3, hc3⟩
  refine (SChoose_spec h3 b2 n2 c2 xs b3 n3 c3 ys (hr2.keep0 ho3) hr3 hx hy hc2 hc3).use ?_
  rintro v h4 ⟨ho4, rfl⟩
  have ho24 : Only [] h h4 := (ho2.trans ho3).trans ho4
  cases hch : chooseS (unpS xs) (unpS ys) with
  | mk r k =>
  cases r with
  | none =>
    refine New.blk (cs := [.int .i64 0, .int .i64 0, .int .i64 0, .int .i64 0]) fun h5 hs5 hb5 ho5 => ?_
    refine ⟨rfl, ?_⟩
    refine StN.blk (new := [.int .i64 0, .int .i64 0, .int .i64 0, .int .i64 0]) hb5 rfl (by simp [Value.oneCell']) fun h6 hb6 ho6 _ => ?_
    exact ⟨(ho24.trans ho5).trans' ho6 (by simp; exact ho24.size), rfl⟩
  | some s =>
    obtain ⟨hr0, hc0, hc1⟩ := hroot s k hch
    refine New.blk (cs := [.int .i64 0, .int .i64 0, .int .i64 0, .int .i64 0]) fun h5 hs5 hb5 ho5 => ?_
    refine ⟨rfl, ?_⟩
    refine StN.blk (new := [.int .i64 s.gen, .int .i64 s.life, .int .i64 s.done, .int .i64 s.root]) hb5 rfl (by simp [Value.oneCell']) fun h6 hb6 ho6 _ => ?_
    have ho26 : Only [] h h6 := (ho24.trans ho5).trans' ho6 (by simp; exact ho24.size)
    refine dC_seq ?_
    refine dC_seq ?_
    refine dC_ops ?_
    refine Ar.fit64 (by omega) ?_
    refine CLt.mk (fun hlt => ?_) (fun hge => ?_)
    · exact ⟨ho26, by show if n < s.cells + 12 then _ else _; rw [if_pos hlt]; rfl⟩
    refine LdN.row hb6.row rfl ?_
    refine New.blk (cs := [.int .i64 s.gen, .int .i64 s.life, .int .i64 s.done, .int .i64 s.root, .int .i64 s.cells, .pointer none, .slice none 0 0, .slice none 0 0, .slice none 0 0, .map none]) fun h7 hs7 hb7 ho7 => ?_
    refine dL_mv (v := .pointer (some ⟨h6.size, 0, none⟩)) rfl ?_
    refine dL_nil ?_
    refine dC_seq ?_
    refine dC_ops ?_
    refine dL_mv (v := .func (.func f) first.toArray cap.toArray) rfl ?_
    refine dL_mv (v := .int .i64 s.cells) rfl ?_
    refine Ar.fit64 (n := 2 + s.cells) (by omega) ?_
    refine dL_mv (v := .int .i64 n) rfl ?_
    refine Raw.mkmap fun h8 hs8 hm8 ho8 => ?_
    refine Raw.mkmap fun h9 hs9 hm9 ho9 => ?_
    refine Raw.mkmap fun h10 hs10 hm10 ho10 => ?_
    refine New.blk (cs := [.func (.func f) first.toArray cap.toArray, .int .i64 (2 + s.cells), .int .i64 n, .map (some h7.size), .map (some h8.size), .map (some h9.size), .slice none 0 0, .slice none 0 0, .int .i64 0, .slice none 0 0]) fun h11 hs11 hb11 ho11 => ?_
    have hb6' : Blk h11 h4.size _ := ((((hb6.keep ho7 (by simp)).keep ho8 (by simp)).keep ho9 (by simp)).keep ho10 (by simp)).keep ho11 (by simp)
    have hb7' : Blk h11 h6.size _ := (((hb7.keep ho8 (by simp)).keep ho9 (by simp)).keep ho10 (by simp)).keep ho11 (by simp)
    have hm8' := map_keep ho11 (by simp) (map_keep ho10 (by simp) (map_keep ho9 (by simp) hm8))
    have hm10' := map_keep ho11 (by simp) hm10
    have ho2b : Only [] h h11 := ((((ho26.trans ho7).trans ho8).trans ho9).trans ho10).trans ho11
    refine dC_seq ?_
    refine dC_seq ?_
    refine dC_ops ?_
    refine Ld.blk hb6' rfl ?_
    refine CLt.f (by omega) ?_
    refine Ld.blk hb11 rfl ?_
    refine St.blk hb7' (by simp) rfl fun h12 hb12 ho12 _ => ?_
    have e1 : h10.size ∉ [h6.size] := by simp; omega
    have e2 : h7.size ∉ [h6.size] := by simp; omega
    have e3 : h9.size ∉ [h6.size] := by simp; omega
    have e4 : h4.size ∉ [h6.size] := by have := hb6.lt; simp; omega
    have hb11' := hb11.keep ho12 e1
    refine Ld.blk (hb6'.keep ho12 e4) rfl ?_
    rw [hr0]
    refine (Reach0_spec h12 h10.size h7.size h9.size _ _ _ _ _ _ _ hb11' (map_keep ho12 e2 hm8') (map_keep ho12 e3 hm10')).use ?_
    rintro v h13 ⟨⟨b, c, rfl⟩, ho13⟩
    refine St.blk (hb12.keep ho13 (by simp)) (by simp) rfl fun h14 hb14 ho14 _ => ?_
    have hsz : h.size ≤ h6.size := ho26.size
    refine ⟨((ho2b.trans' ho12 (by simp; exact hsz)).trans ho13).trans' ho14 (by simp; exact hsz), ?_⟩
    show if n < s.cells + 12 then _ else _
    rw [if_neg (by omega)]
    refine ⟨h6.size, b, c, h9.size, rfl, ?_⟩
    simpa [foundV, hr0] using hb14
end Go.Proofs.YtiabgojnljfmhaaGreat.Ov.W
