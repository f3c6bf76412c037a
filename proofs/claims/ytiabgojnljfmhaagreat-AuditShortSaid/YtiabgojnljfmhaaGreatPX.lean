/-
  WHAT THE FUNCTIONS OF PACKAGE block DO . No condition beyond each statement's own.
-/
import Derived.Test.YtiabgojnljfmhaaGreatPB
namespace Go.Proofs.YtiabgojnljfmhaaGreat.Ov.W

/-- A coder at block p, its table at block t. -/
def Cdr (h : H) (p t : Nat) : Prop := (∃ a b : Int, Blk h p [.pointer (some ⟨t, 0, none⟩), .int .i64 a, .int .i64 b]) ∧ Tbl h t ∧ p ≠ t
theorem Cdr.keep {M : List Nat} {h h' : H} {p t : Nat} (ho : Only M h h') (h1 : p ∉ M) (h2 : t ∉ M) (hc : Cdr h p t) : Cdr h' p t := by
  obtain ⟨⟨a, b, hb⟩, ht, hn⟩ := hc
  exact ⟨⟨a, b, hb.keep ho h1⟩, ht.keep ho h2, hn⟩
theorem Cdr.keep0 {h h' : H} {p t : Nat} (ho : Only [] h h') (hc : Cdr h p t) : Cdr h' p t := hc.keep ho (by simp) (by simp)
theorem Cdr.lt {h : H} {p t : Nat} (hc : Cdr h p t) : p < h.size ∧ t < h.size := by
  obtain ⟨⟨a, b, hb⟩, ht, hn⟩ := hc
  exact ⟨hb.lt, ht.lt⟩

theorem BNew_spec (h : H) : Fn Pg 42 #[] h fun v h' => ∃ p t, v = .pointer (some ⟨p, 0, none⟩) ∧ Cdr h' p t ∧ Only [] h h' ∧ h.size ≤ p ∧ h.size ≤ t := by
  refine g42 (args := []) ?_
  refine (CNew_spec h).use ?_
  rintro v h1 ⟨t, rfl, ht, ho1, hlo⟩
  refine New.blk (cs := [.pointer (some ⟨t, 0, none⟩), .int .i64 0, .int .i64 0]) fun h2 hs2 hb2 ho2 => ?_
  have htl := ht.lt
  exact ⟨_, t, rfl, ⟨⟨0, 0, hb2⟩, ht.keep ho2 (by simp), by omega⟩, ho1.trans ho2, ho1.size, hlo⟩

/-- A sum as four bytes. -/
def sum4 (n : Int) : List Int := [IntKind.u8.wrap (n.fdiv (2 ^ min 24 IntKind.u32.bits)), IntKind.u8.wrap (n.fdiv (2 ^ min 16 IntKind.u32.bits)), IntKind.u8.wrap (n.fdiv (2 ^ min 8 IntKind.u32.bits)), IntKind.u8.wrap n]
theorem sum_spec (h : H) (p t : Nat) (base : Option Addr) (n c : Nat) (bs : List Int) (hc : Cdr h p t) (hr : Bytes h base n bs) (hd : ∀ b ∈ blks base, b ≠ t) (hn : n ≤ 2 ^ 47) :
    Fn Pg 101 #[.pointer (some ⟨p, 0, none⟩), .slice base n c] h fun v h' => ∃ b1, v = .slice b1 4 4 ∧ OwnS h' h.size b1 4 4 1 ((sum4 (crcOf 4294967295 bs)).map (.int .u8)) ∧ Cdr h' p t ∧ Only [t] h h' := by
  obtain ⟨⟨a, b, hb⟩, ht, hpt⟩ := hc
  refine g101 (args := [_, _]) ?_
  refine Ld.blk hb rfl ?_
  refine (Sum_spec h t base n c bs ht hr hd hn).use ?_
  rintro v h1 ⟨rfl, ht1, ho1⟩
  refine Shr.any (by omega) fun m1 hm1 => ?_
  refine Ar.any fun m2 hm2 => ?_
  refine Shr.any (by omega) fun m3 hm3 => ?_
  refine Ar.any fun m4 hm4 => ?_
  refine Shr.any (by omega) fun m5 hm5 => ?_
  refine Ar.any fun m6 hm6 => ?_
  refine Ar.any fun m7 hm7 => ?_
  refine New.blk (cs := [.int .u8 m2, .int .u8 m4, .int .u8 m6, .int .u8 m7]) fun h2 hs2 hb2 ho2 => ?_
  refine ⟨_, rfl, ⟨rfl, .inr ⟨h1.size, [], rfl, ho1.size, Nat.le_refl _, ?_, rfl⟩⟩, ⟨⟨a, b, (hb.keep ho1 (by simp [hpt])).keep ho2 (by simp)⟩, ht1.keep ho2 (by simp), hpt⟩, ho1.trans' ho2 (by simp)⟩
  have : [Value.int .u8 m2, .int .u8 m4, .int .u8 m6, .int .u8 m7] = (sum4 (crcOf 4294967295 bs)).map (.int .u8) ++ [] := by
    rw [List.append_nil, hm2, hm1, hm4, hm3, hm6, hm5, hm7]
    rfl
  rw [← this]
  exact hb2

/-- A sector's bytes. -/
def framed (bs : List Int) : List Int := bs.take 124 ++ (List.replicate 124 (0 : Int)).drop bs.length
def secOf (bs : List Int) : List Int := framed bs ++ sum4 (crcOf 4294967295 (framed bs))
end Go.Proofs.YtiabgojnljfmhaaGreat.Ov.W
