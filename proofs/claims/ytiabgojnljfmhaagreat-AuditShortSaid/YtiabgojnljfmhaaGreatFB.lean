/-
  SEALED SECTORS: package sealed. No condition beyond each statement's own.
-/
import Derived.Test.YtiabgojnljfmhaaGreatFA
import Derived.Test.YtiabgojnljfmhaaGreatQ4
namespace Go.Proofs.YtiabgojnljfmhaaGreat.Ov.W

theorem SSum_spec (h : H) (base : Option Addr) (n c : Nat) (bs : List Int) (hr : Bytes h base n bs) (hn : n ≤ 2 ^ 47) :
    Fn Pg 87 #[.slice base n c] h fun v h' => ∃ b1, v = .slice b1 4 4 ∧ OwnS h' h.size b1 4 4 1 ((sum4 (crcOf 4294967295 bs)).map (.int .u8)) ∧ Only [] h h' := by
  refine g87 (args := [_]) ?_
  refine (CNew_spec h).use ?_
  rintro v h1 ⟨t, rfl, ht, ho1, hlo⟩
  have hlt := Rds.lt hr.2
  refine (Sum_spec h1 t base n c bs ht (hr.keep0 ho1) (fun b hb hbt => by have := hlt b hb; omega) hn).use ?_
  rintro v h2 ⟨rfl, ht2, ho2⟩
  refine Shr.any (by omega) fun m1 hm1 => ?_
  refine Ar.any fun m2 hm2 => ?_
  refine Shr.any (by omega) fun m3 hm3 => ?_
  refine Ar.any fun m4 hm4 => ?_
  refine Shr.any (by omega) fun m5 hm5 => ?_
  refine Ar.any fun m6 hm6 => ?_
  refine Ar.any fun m7 hm7 => ?_
  refine New.blk (cs := [.int .u8 m2, .int .u8 m4, .int .u8 m6, .int .u8 m7]) fun h3 hs3 hb3 ho3 => ?_
  have ho12 : Only [] h h2 := ho1.trans' ho2 (by simp; exact hlo)
  refine ⟨_, rfl, ⟨rfl, .inr ⟨h2.size, [], rfl, ho12.size, Nat.le_refl _, ?_, rfl⟩⟩, ho12.trans ho3⟩
  have : [Value.int .u8 m2, .int .u8 m4, .int .u8 m6, .int .u8 m7] = (sum4 (crcOf 4294967295 bs)).map (.int .u8) ++ [] := by
    rw [List.append_nil, hm2, hm1, hm4, hm3, hm6, hm5, hm7]
    rfl
  rw [← this]
  exact hb3

theorem framed_len (bs : List Int) : (framed bs).length = 124 := by
  unfold framed
  rw [List.length_append, List.length_take, List.length_drop, List.length_replicate]
  omega
theorem secOf_len (bs : List Int) : (secOf bs).length = 128 := by
  unfold secOf
  rw [List.length_append, framed_len, sum4_len]
theorem framed_byte {bs : List Int} (hb : ∀ x ∈ bs, isByte x) : ∀ x ∈ framed bs, isByte x := by
  intro x hx
  rcases List.mem_append.1 hx with hx | hx
  · exact hb x (List.mem_of_mem_take hx)
  · rw [List.eq_of_mem_replicate (List.mem_of_mem_drop hx)]; unfold isByte; omega
theorem secOf_byte {bs : List Int} (hb : ∀ x ∈ bs, isByte x) : ∀ x ∈ secOf bs, isByte x := by
  intro x hx
  rcases List.mem_append.1 hx with hx | hx
  · exact framed_byte hb x hx
  · exact sum4_byte _ x hx

theorem SSeal_spec (h : H) (base : Option Addr) (n c : Nat) (bs : List Int) (hr : Bytes h base n bs) :
    Fn Pg 73 #[.slice base n c] h fun v h' => ∃ b1 c1, v = .slice b1 128 c1 ∧ OwnS h' h.size b1 128 c1 1 ((secOf bs).map (.int .u8)) ∧ Only [] h h' := by
  have hl := hr.1
  refine g73 (args := [_]) ?_
  refine Mk.own (by omega) (by omega) (by omega) fun h1 hown1 ho1 hs1 => ?_
  rw [show (124 : Int).toNat = 124 from rfl] at hown1 ⊢
  have hrep : List.replicate 124 (Value.int .u8 0) = (List.replicate 124 (0 : Int)).map (.int .u8) := List.map_replicate.symm
  rw [hrep] at hown1
  refine Raw.copyOwn (by kernel_rfl) rfl rfl hown1 (hr.keep0 ho1) fun h2 hown2 ho2 hs2 => ?_
  rw [← hl] at hown2
  have ho12 : Only [] h h2 := ho1.trans' ho2 (by simp [blks])
  refine (SSum_spec h2 _ 124 124 (framed bs) hown2.nums (by omega)).use ?_
  rintro v h4 ⟨b4, rfl, hown4, ho4⟩
  have hown2' := hown2.keep0 ho4
  refine App.own hown2' hown4.rds rfl (by simp [sum4, Value.oneCell']) (by decide) rfl (by omega) (by decide) (ho12.trans ho4).size fun h5 b5 c5 hown5 ho5 hbl5 => ?_
  refine ⟨b5, c5, rfl, ?_, (ho12.trans ho4).trans' ho5 (by simp [blks])⟩
  rw [← List.map_append] at hown5
  exact hown5

/-- What a sealed sector has. -/
def opens (bs : List Int) : Option (List Int) := if bs.length = 128 ∧ sum4 (crcOf 4294967295 (bs.take 124)) = bs.drop 124 then some (bs.take 124) else none
theorem opens_secOf (bs : List Int) : opens (secOf bs) = some (framed bs) := by
  have h1 : (secOf bs).take 124 = framed bs := by unfold secOf; rw [List.take_left' (framed_len bs)]
  have h2 : (secOf bs).drop 124 = sum4 (crcOf 4294967295 (framed bs)) := by unfold secOf; rw [List.drop_left' (framed_len bs)]
  rw [opens, if_pos ⟨secOf_len bs, by rw [h1, h2]⟩, h1]
theorem opens_zeros : opens (List.replicate 128 0) = none := by
  rw [opens, if_neg]
  rintro ⟨_, h⟩
  rw [List.take_replicate, List.drop_replicate] at h
  exact crc_zeros h

theorem SOpen_spec (h : H) (base : Option Addr) (n c : Nat) (bs : List Int) (hr : Bytes h base n bs) (hb : ∀ x ∈ bs, isByte x) (hnc : n ≤ c) :
    Fn Pg 53 #[.slice base n c] h fun v h' => Only [] h h' ∧ match opens bs with
      | none => v = .tuple #[.slice none 0 0, .bool false]
      | some fs => ∃ b1 c1, v = .tuple #[.slice b1 124 c1, .bool true] ∧ OwnS h' h.size b1 124 c1 1 (fs.map (.int .u8)) := by
  have hl := hr.1
  refine g53 (args := [_]) ?_
  refine CNe.mk (fun hne => ?_) (fun heq => ?_)
  · refine ⟨Only.refl _ _, ?_⟩
    rw [opens, if_neg (fun hh => hne (by omega))]
    rfl
  refine Sl.pre (by omega) (by omega) ?_
  rw [show (124 : Int).toNat = 124 from rfl]
  refine Sl.suf (vs := bs.map (.int .u8)) hr.2 (by simpa using hl) (by omega) (by omega) hnc fun b6 hr6 hb6 _ => ?_
  rw [show (124 : Int).toNat = 124 from rfl] at hr6 ⊢
  have hr6' : Bytes h b6 (n - 124) (bs.drop 124) := Nums.drop hr6 hl
  refine (SSum_spec h base 124 c (bs.take 124) (hr.take (by omega)) (by omega)).use ?_
  rintro v h1 ⟨b1, rfl, hown1, ho1⟩
  refine (BEqual_spec h1 b1 4 4 _ b6 (n - 124) (c - 124) (bs.drop 124) hown1.nums (hr6'.keep0 ho1) (sum4_byte _) (fun x hx => hb x (List.mem_of_mem_drop hx))).use ?_
  rintro v h2 ⟨rfl, rfl⟩
  by_cases he : sum4 (crcOf 4294967295 (bs.take 124)) = bs.drop 124
  · rw [decide_eq_true he]
    refine Sl.pre (by omega) (by omega) ?_
    rw [show (124 : Int).toNat = 124 from rfl]
    refine App.own (OwnS.nil h2 h.size 1) ((hr.take (i := 124) (by omega)).keep0 ho1).2 (by simp; omega) one_int (by decide) rfl (by omega) (by decide) ho1.size fun h3 b3 c3 hown3 ho3 _ => ?_
    refine ⟨ho1.trans' ho3 (by simp [blks]), ?_⟩
    rw [opens, if_pos ⟨by omega, he⟩]
    exact ⟨b3, c3, rfl, hown3⟩
  · rw [decide_eq_false he]
    refine ⟨ho1, ?_⟩
    rw [opens, if_neg (fun hh => he hh.2)]
    rfl
end Go.Proofs.YtiabgojnljfmhaaGreat.Ov.W
