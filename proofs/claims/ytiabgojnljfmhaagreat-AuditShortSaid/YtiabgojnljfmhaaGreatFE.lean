/-
  A DISK IS FORMATTED: session.Format. No condition beyond each statement's own.
-/
import Derived.Test.YtiabgojnljfmhaaGreatFC
import Derived.Test.YtiabgojnljfmhaaGreatFD
namespace Go.Proofs.YtiabgojnljfmhaaGreat.Ov.W

def wiped (cells : Nat) : List (Int × List Int) := (List.range cells).map fun (i : Nat) => (2 + (i : Int), zeroSec)
theorem wiped_len (c : Nat) : (wiped c).length = c := by simp [wiped]
def formatted (ks : List (List Int)) (cells : Nat) : List (List Int) := flushed (flushed ks (wiped cells)) [(0, packS 1 1 0 0 cells), (1, zeroSec)]

theorem Format_spec (h : H) (d : Nat) (W : List Nat) (ks : List (List Int)) (cells : Nat) (hd : Dsk h d W ks []) (h4 : 4 ≤ cells) (h256 : cells ≤ 256) (hk : cells + 12 ≤ ks.length) :
    Fn Pg 25 #[.pointer (some ⟨d, 0, none⟩), .int .i64 cells] h fun v h' => v = .int .i64 0 ∧ DskUp h d W (formatted ks cells) [] h' := by
  refine g25 (args := [_, _]) ?_
  refine CLt.f (by omega) ?_
  refine CLt.f (by omega) ?_
  refine (DLen_spec h d W ks [] hd).use ?_
  rintro v h1 ⟨rfl, rfl⟩
  refine Ar.fit64 (by omega) ?_
  refine CLt.f (by omega) ?_
  refine Mk.own (by omega) (by omega) (by omega) fun h2 hown2 ho2 hs2 => ?_
  rw [show (128 : Int).toNat = 128 from rfl] at hown2 ⊢
  have hz : List.replicate 128 (Value.int .u8 0) = zeroSec.map (.int .u8) := by simp [zeroSec]
  rw [hz] at hown2
  have hlt := hd.lt
  -- the noughts are none of the disk's
  have nod : ∀ {W' : List Nat}, (∀ b ∈ W', b ∈ W ∨ h2.size ≤ b) → ∀ b ∈ blks (some (⟨h1.size, 0, none⟩ : Addr)), b ∉ W' := fun hW b hb hm => by
    simp only [blks, List.mem_singleton] at hb
    subst hb
    rcases hW _ hm with h7 | h7
    · have := hlt _ h7; omega
    · omega
  refine LoopH.mk (σ := Nat) (fun i => [(28, .int .i64 i)]) (fun i h3 => i ≤ cells ∧ DskUp h2 d W ks (wiped i) h3) (fun i _ => cells - i) 0 ⟨rfl, trivial⟩ ⟨by omega, .refl (hd.keep0 ho2)⟩ ?_
  rintro i h3 g ⟨hi, W3, hd3, ho3, hb3⟩
  refine CLt.mk (fun hlt3 => ?_) (fun hge => ?_)
  · refine Ar.fit64 (by omega) ?_
    refine (DWrite_spec h3 d W3 ks (wiped i) (2 + (i : Int)) _ 128 128 zeroSec hd3 (by omega) ((hown2.keep ho3 (nod fun b hb => .inl hb)).nums) zeroSec_is (by rw [wiped_len]; omega)).use ?_
    rintro v h4 ⟨rfl, hu4⟩
    refine CNe.f rfl ?_
    refine Ar.fit64 (by omega) ?_
    refine ⟨i + 1, ⟨rfl, trivial⟩, ⟨by omega, ?_⟩, by omega⟩
    have hw : wiped i ++ [(2 + (i : Int), zeroSec)] = wiped (i + 1) := by unfold wiped; rw [List.range_succ, List.map_append]; rfl
    rw [hw] at hu4
    exact DskUp.step ho3 hb3 hu4
  · have : i = cells := by omega
    subst this
    refine (DFlush_spec h3 d W3 ks (wiped i) hd3 (by rw [wiped_len]; omega)).use ?_
    rintro v h4 ⟨rfl, hu4⟩
    refine CNe.f rfl ?_
    obtain ⟨W4, hd4, ho4, hb4⟩ := DskUp.step ho3 hb3 hu4
    refine (SPack_spec h4 1 1 0 0 i (by unfold i63; omega) (by unfold i63; omega) (by unfold i63; omega) (by unfold i63; omega) (by unfold i63; omega)).use ?_
    rintro v h5 ⟨bp, cp, rfl, hown5, ho5⟩
    refine New.blk (cs := [.slice bp 128 cp, .slice (some ⟨h1.size, 0, none⟩) 128 128]) fun h6 hs6 hb6 ho6 => ?_
    have ho46 : Only [] h4 h6 := ho5.trans ho6
    have hd6 := hd4.keep0 ho46
    have hlt4 := hd4.lt
    have hown6 := hown5.keep0 ho6
    have hz6 := ((hown2.keep ho4 (nod fun b hb => .inl hb)).keep0 ho5).keep0 ho6
    have hs5 := ho5.size
    -- the two writes
    refine LoopH.mk (σ := Nat) (fun k => [(52, .int .i64 k)]) (fun k h7 => k ≤ 2 ∧ DskUp h6 d W4 (flushed ks (wiped i)) (([(0, packS 1 1 0 0 i), (1, zeroSec)] : List (Int × List Int)).take k) h7) (fun k _ => 2 - k) 0 ⟨rfl, trivial⟩ ⟨by omega, .refl hd6⟩ ?_
    rintro k h7 g7 ⟨hk2, W7, hd7, ho7, hb7⟩
    have nod7 : ∀ b, h4.size ≤ b → b < h6.size → b ∉ W7 := fun b h8 h9 hm => by
      rcases hb7 b hm with h10 | h10
      · have := hlt4 b h10; omega
      · omega
    have nod4 : ∀ b, h4.size ≤ b → b ∉ W4 := fun b h8 hm => by have := hlt4 b hm; omega
    have hb67 := hb6.keep ho7 (fun hm => nod4 _ hs5 hm)
    have hfl : (flushed ks (wiped i)).length = ks.length := flushed_len _ _
    have hpk : isSec (packS 1 1 0 0 (i : Int)) := ⟨secOf_len _, packS_byte _ _ _ _ _⟩
    refine CLt.mk (fun hlt7 => ?_) (fun hge7 => ?_)
    · have hk01 : k = 0 ∨ k = 1 := by omega
      rcases hk01 with rfl | rfl
      · refine Ix.own (j := 0) (by omega) (by omega) rfl rfl ?_
        refine Ld.blk hb67 rfl ?_
        refine (DWrite_spec h7 d W7 _ [] 0 bp 128 cp (packS 1 1 0 0 i) hd7 (by omega) ((hown6.keep ho7 (fun b hb => nod4 b (hown6.lo b hb))).nums) hpk (by simp)).use ?_
        rintro v h8 ⟨rfl, hu8⟩
        refine CNe.f rfl ?_
        refine Ar.fit64 (by omega) ?_
        exact ⟨1, ⟨rfl, trivial⟩, ⟨by omega, DskUp.step ho7 hb7 hu8⟩, by omega⟩
      · refine Ix.own (j := 1) (by omega) (by omega) rfl rfl ?_
        refine Ld.blk hb67 rfl ?_
        refine (DWrite_spec h7 d W7 _ [(0, packS 1 1 0 0 i)] 1 _ 128 128 zeroSec hd7 (by omega) ((hz6.keep ho7 (fun b hb hm => nod hb4 b hb hm)).nums) zeroSec_is (by simp)).use ?_
        rintro v h8 ⟨rfl, hu8⟩
        refine CNe.f rfl ?_
        refine Ar.fit64 (by omega) ?_
        exact ⟨2, ⟨rfl, trivial⟩, ⟨by omega, DskUp.step ho7 hb7 hu8⟩, by omega⟩
    · have : k = 2 := by omega
      subst this
      refine (DFlush_spec h7 d W7 _ _ hd7 (by simp)).use ?_
      rintro v h8 ⟨rfl, hu8⟩
      refine ⟨rfl, ?_⟩
      have e1 : DskUp h6 d W4 (formatted ks i) [] h8 := DskUp.step ho7 hb7 hu8
      have e2 : DskUp h4 d W4 (formatted ks i) [] h8 := DskUp.step ho46.nil (fun b hb => .inl hb) e1
      have e3 : DskUp h2 d W (formatted ks i) [] h8 := DskUp.step ho4 hb4 e2
      exact DskUp.step ho2.nil (fun b hb => .inl hb) e3
end Go.Proofs.YtiabgojnljfmhaaGreat.Ov.W
