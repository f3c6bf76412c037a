/-
  WHAT THE FUNCTIONS OF PACKAGE bits DO (the writer). No condition beyond each statement's own.
-/
import Derived.Test.YtaffgkgaoiolbaaEx
import Derived.Test.YtaffgkgaoiolbaaS
import Derived.Test.YtaffgkgaoiolbaaQ1
namespace Go.Proofs.Ytaffgkgaoiolbaa.Ov.W

/-- A writer at block p: its own blocks W, its digits l. -/
def Wr (h : H) (p : Nat) (W : List Nat) (l : List Bool) : Prop :=
  ∃ base n c bs, W = p :: blks base ∧ p ∉ blks base ∧ Blk h p [.slice base n c, .int .i64 l.length] ∧ OwnS h 0 base n c 1 (bs.map (.int .u8)) ∧ BitsOf bs l

/-- A writer that has become another: only its own blocks are others; what is new is new. -/
def WrUp (h : H) (p : Nat) (W : List Nat) (l : List Bool) (h' : H) : Prop :=
  ∃ W', Wr h' p W' l ∧ Only W h h' ∧ ∀ b ∈ W', b ∈ W ∨ h.size ≤ b

theorem WrUp.refl {h : H} {p : Nat} {W : List Nat} {l : List Bool} (hw : Wr h p W l) : WrUp h p W l h := ⟨W, hw, Only.refl _ _, fun _ h => .inl h⟩
theorem WrUp.step {h h1 h2 : H} {p : Nat} {W W1 : List Nat} {l : List Bool} (ho : Only W h h1) (hb : ∀ b ∈ W1, b ∈ W ∨ h.size ≤ b) (hu : WrUp h1 p W1 l h2) : WrUp h p W l h2 := by
  obtain ⟨W2, hw, ho2, hb2⟩ := hu
  refine ⟨W2, hw, ho.trans' ho2 hb, fun b hb' => ?_⟩
  rcases hb2 b hb' with h3 | h3
  · exact hb b h3
  · exact .inr (Nat.le_trans ho.size h3)

theorem NewWriter_spec (h : H) : Fn Pg 23 #[] h fun v h' => ∃ p, v = .pointer (some ⟨p, 0, none⟩) ∧ Wr h' p [p] [] ∧ Only [] h h' ∧ h.size ≤ p := by
  refine g23 (args := []) ?_
  refine New.blk (cs := [.slice none 0 0, .int .i64 0]) fun h' hs hb ho => ?_
  exact ⟨_, rfl, ⟨none, 0, 0, [], rfl, by simp [blks], hb, OwnS.nil _ _ _, BitsOf.nil⟩, ho, Nat.le_refl _⟩

theorem Len_spec (h : H) (p : Nat) (W : List Nat) (l : List Bool) (hw : Wr h p W l) : Fn Pg 19 #[.pointer (some ⟨p, 0, none⟩)] h fun v h' => v = .int .i64 l.length ∧ h' = h := by
  obtain ⟨base, n, c, bs, rfl, hp, hb, ho, hbs⟩ := hw
  refine g19 (args := [_]) ?_
  refine Ld.blk hb rfl ?_
  exact ⟨rfl, rfl⟩

theorem put_spec (h : H) (p : Nat) (W : List Nat) (l : List Bool) (one : Bool) (hw : Wr h p W l) (hl : l.length < 2 ^ 40) :
    Fn Pg 31 #[.pointer (some ⟨p, 0, none⟩), .bool one] h fun v h' => v = .tuple #[] ∧ WrUp h p W (l ++ [one]) h' := by
  obtain ⟨base, n, c, bs, rfl, hp, hb, ho, hbs⟩ := hw
  refine g31 (args := [_, _]) ?_
  have hn : bs.length = n := by simpa using ho.1
  refine seq_join (σ := Unit) (fun _ => [(0, .pointer (some ⟨p, 0, none⟩)), (1, .bool one)])
    (fun _ h1 => ∃ base1 n1 c1 bs1, p ∉ blks base1 ∧ Blk h1 p [.slice base1 n1 c1, .int .i64 l.length] ∧ OwnS h1 0 base1 n1 c1 1 (bs1.map (.int .u8)) ∧ BitsRoom bs1 l ∧ Only (p :: blks base) h h1 ∧ (∀ b ∈ blks base1, b ∈ blks base ∨ h.size ≤ b)) ?_ ?_
  · refine Ld.blk hb rfl ?_
    refine Rem.nn (by omega) (by omega) ?_
    refine CEq.mk (fun hz => ?_) (fun hz => ?_)
    · refine Ld.blk hb rfl ?_
      refine New.app (cs := [.int .u8 0]) ho rfl (by simp [Value.oneCell']) (by decide) rfl (by have := hbs.1; omega) (by decide) (Nat.zero_le _) fun r h1 base1 c1 ho1 hon1 hbl1 => ?_
      have hp1 : p ∉ blks base1 := fun hm => (hbl1 p hm).elim hp (fun h' => absurd hb.lt (Nat.not_lt.2 h'))
      refine St.blk (hb.keep hon1 hp) (by simp) rfl fun h2 hb2 hon2 _ => ?_
      refine ⟨(), ⟨rfl, rfl, trivial⟩, base1, n + 1, c1, bs ++ [0], hp1, hb2, ?_, hbs.room0 (by omega), ?_, hbl1⟩
      · have := ho1.keep hon2 (fun b hb' h' => hp1 (by simp at h'; subst h'; exact hb'))
        simpa using this
      · exact (hon1.mono (by simp; intro x hx; exact .inr hx)).trans (hon2.mono (by simp))
    · exact ⟨(), ⟨rfl, rfl, trivial⟩, base, n, c, bs, hp, hb, ho, hbs.room1 (by omega), Only.refl _ _, fun b hb => .inl hb⟩
  · rintro _ h1 g ⟨base1, n1, c1, bs1, hp1, hb1, ho1, hbs1, hon1, hbl1⟩
    have hn1 : bs1.length = n1 := by simpa using ho1.1
    refine seq_join (σ := Unit) (fun _ => [(0, .pointer (some ⟨p, 0, none⟩))])
      (fun _ h2 => ∃ bs2, Blk h2 p [.slice base1 n1 c1, .int .i64 l.length] ∧ OwnS h2 0 base1 n1 c1 1 (bs2.map (.int .u8)) ∧ BitsOf bs2 (l ++ [one]) ∧ Only (p :: blks base) h h2) ?_ ?_
    · cases one with
      | false => exact ⟨(), ⟨rfl, trivial⟩, bs1, hb1, ho1, hbs1.skip, hon1⟩
      | true =>
        have hlen := hbs1.1
        refine Ld.blk hb1 rfl ?_
        refine Ld.blk hb1 rfl ?_
        refine Quo.nn64 (by omega) (by omega) ?_
        obtain ⟨b, rfl, hc, hst⟩ := ho1.put (i := l.length / 8) (by omega)
        have hi : ((l.length : Int) / 8).toNat * 1 = l.length / 8 := by omega
        refine Ix.own (by omega) (by omega) rfl hi ?_
        refine Ld.mk hc ?_
        refine Ld.blk hb1 rfl ?_
        refine Rem.nn (by omega) (by omega) ?_
        refine Shr.any (by omega) fun m hm => ?_
        refine Bits.any fun m2 hm2 => ?_
        refine Ix.own (by omega) (by omega) rfl hi ?_
        refine hst _ _ fun h2 ho2 hon2 _ => ?_
        have hbp : b ≠ p := fun h' => hp1 (by simp [blks, h'])
        refine ⟨(), ⟨rfl, trivial⟩, _, hb1.keep hon2 (by simpa using fun h' => hbp h'.symm), ho2, ?_, ?_⟩
        · have := hbs1.put
          rw [hm2, hm, show min ((l.length : Int) % 8).toNat IntKind.u8.bits = l.length % 8 from by show min _ 8 = _; omega]
          exact this
        · refine hon1.trans' hon2 fun x hx => ?_
          simp at hx
          subst hx
          exact (hbl1 x (by simp [blks])).imp (by simp; exact fun h => .inr h) id
    · rintro _ h2 g ⟨bs2, hb2, ho2, hbs2, hon2⟩
      refine Ld.blk hb2 rfl ?_
      refine Ar.fit64 (by omega) ?_
      refine St.blk hb2 (by simp) rfl fun h3 hb3 hon3 _ => ?_
      refine ⟨rfl, _, ⟨base1, n1, c1, bs2, rfl, hp1, ?_, ho2.keep hon3 (fun b hb' h' => hp1 (by simp at h'; subst h'; exact hb')), hbs2⟩, hon2.trans (hon3.mono (by simp)), ?_⟩
      · simpa using hb3
      · intro b hb'
        rcases List.mem_cons.1 hb' with rfl | hb'
        · exact .inl (by simp)
        · exact (hbl1 b hb').imp (by simp; exact fun h => .inr h) id

theorem Put_spec (h : H) (p : Nat) (W : List Nat) (l : List Bool) (v n : Int) (hw : Wr h p W l) (hl : l.length + 62 < 2 ^ 40) (h0 : 0 ≤ n) (h1 : n ≤ 62) :
    Fn Pg 24 #[.pointer (some ⟨p, 0, none⟩), .int .i64 v, .int .i64 n] h fun r h' => r = .bool true ∧ WrUp h p W (l ++ nb n.toNat v) h' := by
  refine g24 (args := [_, _, _]) ?_
  refine CLt.f h0 ?_
  refine CLt.f h1 ?_
  refine Ar.fit64 (by omega) ?_
  refine LoopH.mk (σ := Nat × List Bool) (fun (k, _) => [(7, .int .i64 ((k : Int) - 1))]) (fun (k, m) h' => (k : Int) ≤ n ∧ m ++ nb k v = nb n.toNat v ∧ WrUp h p W (l ++ m) h') (fun (k, _) _ => k) (n.toNat, []) ⟨by show Value.int _ _ = _; rw [Int.toNat_of_nonneg h0], trivial⟩ ⟨by omega, rfl, by simpa using WrUp.refl hw⟩ ?_
  rintro ⟨k, m⟩ h' g ⟨hk, hm, hu⟩
  refine CLe.mk (fun hge => ?_) (fun hlt => ?_)
  · obtain ⟨j, rfl⟩ : ∃ j, k = j + 1 := ⟨k - 1, by omega⟩
    refine Shr.any (by omega) fun x hx => ?_
    refine Bits.any fun y hy => ?_
    have hlen := congrArg List.length hm
    simp only [List.length_append, nb_length] at hlen
    obtain ⟨W', hw', ho', hb'⟩ := hu
    have hd : (y == 1) = dig v j := by
      rw [hy, hx, show (((j + 1 : Nat) : Int) - 1).toNat = j from by omega]
      exact shr_and (by omega)
    have done : ∀ (b : Bool) (h2 : H), dig v j = b → WrUp h' p W' (l ++ m ++ [b]) h2 → m ++ [b] ++ nb j v = nb n.toNat v ∧ WrUp h p W (l ++ (m ++ [b])) h2 := by
      intro b h2 hb2 hu2
      refine ⟨by rw [← hm, List.append_assoc, nb, hb2]; rfl, ?_⟩
      rw [← List.append_assoc]
      exact WrUp.step ho' hb' hu2
    refine CEq.mk (fun he => ?_) (fun he => ?_)
    · refine (put_spec h' p W' (l ++ m) true hw' (by simp; omega)).use ?_
      rintro r h2 ⟨rfl, hu2⟩
      refine Ar.fit64 (by omega) ?_
      obtain ⟨d1, d2⟩ := done true h2 (by rw [← hd, he]; rfl) hu2
      exact ⟨(j, m ++ [true]), ⟨by show Value.int _ _ = Value.int _ _; congr 1; omega, trivial⟩, ⟨by omega, d1, d2⟩, Nat.lt_succ_self j⟩
    · refine (put_spec h' p W' (l ++ m) false hw' (by simp; omega)).use ?_
      rintro r h2 ⟨rfl, hu2⟩
      refine Ar.fit64 (by omega) ?_
      obtain ⟨d1, d2⟩ := done false h2 (by rw [← hd]; simpa using he) hu2
      exact ⟨(j, m ++ [false]), ⟨by show Value.int _ _ = Value.int _ _; congr 1; omega, trivial⟩, ⟨by omega, d1, d2⟩, Nat.lt_succ_self j⟩
  · have : k = 0 := by omega
    subst this
    simp only [nb, List.append_nil] at hm
    exact ⟨rfl, hm ▸ hu⟩

theorem Ones_spec (h : H) (p : Nat) (W : List Nat) (l : List Bool) (n : Int) (hw : Wr h p W l) (hl : l.length + 1030 < 2 ^ 40) (h0 : 0 ≤ n) (h1 : n ≤ 1024) :
    Fn Pg 42 #[.pointer (some ⟨p, 0, none⟩), .int .i64 n] h fun r h' => r = .bool true ∧ WrUp h p W (l ++ (List.replicate n.toNat true ++ [false])) h' := by
  refine g42 (args := [_, _]) ?_
  refine CLt.f h0 ?_
  refine CLt.f h1 ?_
  refine LoopH.mk (σ := Nat) (fun k => [(12, .int .i64 k)]) (fun k h' => (k : Int) ≤ n ∧ WrUp h p W (l ++ List.replicate k true) h') (fun k _ => n.toNat - k) 0 ⟨rfl, trivial⟩ ⟨by omega, by simpa using WrUp.refl hw⟩ ?_
  rintro k h' g ⟨hk, hu⟩
  obtain ⟨W', hw', ho', hb'⟩ := hu
  refine CLt.mk (fun hlt => ?_) (fun hge => ?_)
  · refine (put_spec h' p W' _ true hw' (by simp; omega)).use ?_
    rintro r h2 ⟨rfl, hu2⟩
    refine Ar.fit64 (by omega) ?_
    refine ⟨k + 1, ⟨rfl, trivial⟩, ⟨by omega, ?_⟩, by omega⟩
    rw [List.replicate_succ', ← List.append_assoc]
    exact WrUp.step ho' hb' hu2
  · have : k = n.toNat := by omega
    subst this
    refine (put_spec h' p W' _ false hw' (by simp; omega)).use ?_
    rintro r h2 ⟨rfl, hu2⟩
    refine ⟨rfl, ?_⟩
    rw [← List.append_assoc]
    exact WrUp.step ho' hb' hu2

theorem Bytes_spec (h : H) (p : Nat) (W : List Nat) (l : List Bool) (hw : Wr h p W l) (hl : l.length < 2 ^ 40) :
    Fn Pg 20 #[.pointer (some ⟨p, 0, none⟩)] h fun r h' => ∃ base n c bs, r = .slice base n c ∧ OwnS h' h.size base n c 1 (bs.map (.int .u8)) ∧ BitsOf bs l ∧ Only [] h h' := by
  obtain ⟨base, n, c, bs, rfl, hp, hb, ho, hbs⟩ := hw
  have hn : bs.length = n := by simpa using ho.1
  have := hbs.1
  refine g20 (args := [_]) ?_
  refine Ld.blk hb rfl ?_
  refine App.own (lo := h.size) (OwnS.nil h h.size 1) ho.rds (by simpa using hn) (by simp [Value.oneCell']) (by decide) rfl (by omega) (by decide) (Nat.le_refl _) fun h' base' c' ho' hon hbl => ?_
  exact ⟨base', _, c', bs, rfl, by simpa using ho', hbs, hon⟩
end Go.Proofs.Ytaffgkgaoiolbaa.Ov.W
