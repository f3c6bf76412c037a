/-
  NUMBERS AS BYTES: package field, and bytes.Equal. No condition beyond each statement's own.
-/
import Derived.Test.YtiabgojnljfmhaaGreatS
import Derived.Test.YtiabgojnljfmhaaGreatR2
import Derived.Test.YtiabgojnljfmhaaGreatQ1
namespace Go.Proofs.YtiabgojnljfmhaaGreat.Ov.W

/-- A number's lowest bytes, the lowest first. -/
def leB : Nat → Int → List Int
  | 0, _ => []
  | k + 1, n => n % 256 :: leB k (n / 256)
def leV : List Int → Int
  | [] => 0
  | b :: r => b + 256 * leV r
theorem leB_len (k : Nat) : ∀ n, (leB k n).length = k := by induction k <;> simp [leB, *]
theorem leB_byte (k : Nat) : ∀ n, ∀ x ∈ leB k n, isByte x := by
  induction k with
  | zero => intro n x hx; cases hx
  | succ k ih =>
    intro n x hx
    rcases List.mem_cons.1 hx with rfl | hx
    · exact ⟨Int.emod_nonneg _ (by omega), Int.emod_lt_of_pos _ (by omega)⟩
    · exact ih _ x hx
theorem leB_snoc (k : Nat) : ∀ n, leB (k + 1) n = leB k n ++ [n / 256 ^ k % 256] := by
  induction k with
  | zero => intro n; simp [leB]
  | succ k ih =>
    intro n
    rw [leB, ih, leB, List.cons_append, Int.ediv_ediv_of_nonneg (by omega), show (256 : Int) * 256 ^ k = 256 ^ (k + 1) from by rw [Int.pow_succ]; omega]
theorem leV_leB (k : Nat) : ∀ n, leV (leB k n) = n % 256 ^ k := by
  induction k with
  | zero => intro n; simp [leB, leV, Int.emod_one]
  | succ k ih =>
    intro n
    have hp : (0 : Int) < 256 ^ k := Int.pow_pos (by omega)
    have h1 := Int.emod_add_mul_ediv (n / 256) (256 ^ k)
    have h2 := Int.emod_nonneg (n / 256) (show (256 : Int) ^ k ≠ 0 by omega)
    have h3 := Int.emod_lt_of_pos (n / 256) hp
    rw [leB, leV, ih, Int.pow_succ]
    generalize (n / 256) % 256 ^ k = b at *
    have h4 : n = (n % 256 + 256 * b) + (256 ^ k * 256) * (n / 256 / 256 ^ k) := by
      have h5 := Int.emod_add_mul_ediv n 256
      have h6 : (256 : Int) ^ k * 256 * (n / 256 / 256 ^ k) = 256 * (256 ^ k * (n / 256 / 256 ^ k)) := by rw [Int.mul_comm (256 ^ k) 256, Int.mul_assoc]
      rw [h6]
      omega
    have h7 := Int.add_mul_emod_self_left (n % 256 + 256 * b) (256 ^ k * 256) (n / 256 / 256 ^ k)
    rw [← h4] at h7
    rw [h7]
    exact (Int.emod_eq_of_lt (by omega) (by omega)).symm
theorem leV_bd : ∀ bs : List Int, (∀ x ∈ bs, isByte x) → 0 ≤ leV bs ∧ leV bs < 256 ^ bs.length := by
  intro bs
  induction bs with
  | nil => intro _; simp [leV]
  | cons b r ih =>
    intro h
    have h1 := ih fun x hx => h x (by simp [hx])
    have h2 := h b (by simp)
    unfold isByte at h2
    rw [leV, List.length_cons, Int.pow_succ]
    omega
theorem leB_leV : ∀ bs : List Int, (∀ x ∈ bs, isByte x) → leB bs.length (leV bs) = bs := by
  intro bs
  induction bs with
  | nil => intro _; rfl
  | cons b r ih =>
    intro h
    have h2 := h b (by simp)
    unfold isByte at h2
    rw [List.length_cons, leB, leV, show (b + 256 * leV r) % 256 = b from by omega, show (b + 256 * leV r) / 256 = leV r from by omega, ih fun x hx => h x (by simp [hx])]

theorem wrapu64_id {n : Int} (h1 : 0 ≤ n ∧ n ≤ 18446744073709551615) : IntKind.u64.wrap n = n := by
  unfold IntKind.wrap IntKind.bits IntKind.signed
  simp
  omega
theorem wrap8_mod (n : Int) : IntKind.u8.wrap n = n % 256 := by
  unfold IntKind.wrap IntKind.bits IntKind.signed
  simp

theorem FPut_spec (h : H) (n w : Int) (hn : 0 ≤ n ∧ n ≤ 9223372036854775807) (hw : 0 ≤ w ∧ w ≤ 8) :
    Fn Pg 75 #[.int .i64 n, .int .i64 w] h fun v h' => ∃ b, v = .slice b w.toNat w.toNat ∧ OwnS h' h.size b w.toNat w.toNat 1 ((leB w.toNat n).map (.int .u8)) ∧ Only [] h h' := by
  refine g75 (args := [_, _]) ?_
  refine Mk.own (by omega) (by omega) (by omega) fun h1 hown1 ho1 hs1 => ?_
  rw [show max 0 (min w 8) = w from by omega] at hown1 ⊢
  refine Ar.any fun m hm => ?_
  rw [show max 0 n = n from by omega, wrapu64_id (by omega)] at hm
  subst hm
  have hrep : List.replicate w.toNat (Value.int .u8 0) = (List.replicate w.toNat (0 : Int)).map (.int .u8) := List.map_replicate.symm
  rw [hrep] at hown1
  refine LoopH.mk (σ := Nat) (fun i => [(17, .int .i64 i), (6, .int .u64 (m / 256 ^ i))])
    (fun i h2 => i ≤ w.toNat ∧ Only [] h h2 ∧ OwnS h2 h.size (some ⟨h.size, 0, none⟩) w.toNat w.toNat 1 ((leB i m ++ List.replicate (w.toNat - i) 0).map (.int .u8))) (fun i _ => w.toNat - i) 0 ⟨rfl, by show Value.int _ _ = _; simp, trivial⟩ ⟨by omega, ho1, by simpa [leB] using hown1⟩ ?_
  rintro i h2 g ⟨hi, ho2, hown2⟩
  refine CLt.mk (fun hlt => ?_) (fun hge => ?_)
  · have hm0 : 0 ≤ m / 256 ^ i := Int.ediv_nonneg hn.1 (Int.pow_nonneg (by omega))
    refine Ar.any fun x hx => ?_
    obtain ⟨b, hb, hc, hst⟩ := hown2.put (i := i) (by omega)
    injection hb with hb
    injection hb with hb
    subst hb
    refine Ix.own (j := i) (by omega) (by omega) rfl (by omega) ?_
    refine hst _ _ fun h3 hown3 ho3 _ => ?_
    refine Shr.any (by omega) fun y hy => ?_
    refine Ar.fit64 (by omega) ?_
    have hy2 : y = m / 256 ^ (i + 1) := by
      rw [hy, show ((2 : Int) ^ min (8 : Int).toNat IntKind.u64.bits) = 256 from by decide, Int.fdiv_eq_ediv_of_nonneg _ (by omega), Int.ediv_ediv_of_nonneg (Int.pow_nonneg (by omega)), Int.pow_succ]
    refine ⟨i + 1, ⟨rfl, by show Value.int _ _ = _; rw [hy2], trivial⟩, ⟨by omega, ?_, ?_⟩, by omega⟩
    · exact ho2.trans' ho3 (by simp)
    · have : (leB i m ++ List.replicate (w.toNat - i) 0).set i x = leB (i + 1) m ++ List.replicate (w.toNat - (i + 1)) 0 := by
        rw [List.set_append_right _ _ (by rw [leB_len]; exact Nat.le_refl _), leB_len, Nat.sub_self, leB_snoc, hx, wrap8_mod]
        obtain ⟨q, hq⟩ : ∃ q, w.toNat - i = q + 1 := ⟨w.toNat - i - 1, by omega⟩
        rw [hq, show w.toNat - (i + 1) = q from by omega, List.replicate_succ, List.set_cons_zero, List.append_assoc]
        rfl
      rw [this] at hown3
      exact hown3
  · have : i = w.toNat := by omega
    subst this
    refine ⟨_, rfl, ?_, ho2⟩
    rw [Nat.sub_self, List.replicate_zero, List.append_nil] at hown2
    exact hown2

theorem orI64 (a b : Nat) (ha : a < 2 ^ 63) (hb : b < 2 ^ 63) : bitsV .or .i64 (a : Int) (b : Int) = ((a ||| b : Nat) : Int) := by
  have hab : a ||| b < 2 ^ 63 := Nat.or_lt_two_pow ha hb
  simp only [bitsV, ofInt_nat]
  have : (BitVec.ofNat IntKind.i64.bits a ||| BitVec.ofNat IntKind.i64.bits b).toNat = a ||| b := by
    rw [BitVec.toNat_or, BitVec.toNat_ofNat, BitVec.toNat_ofNat]
    show a % 2 ^ 64 ||| b % 2 ^ 64 = _
    rw [Nat.mod_eq_of_lt (by omega), Nat.mod_eq_of_lt (by omega)]
  rw [this]
  exact wrap64_id (by omega)
/-- Digits put behind. -/
theorem or_low {v : Int} {k : Nat} {b : Int} (hv : 0 ≤ v) (hb : 0 ≤ b ∧ b < 2 ^ k) (hbd : v * 2 ^ k + b < 9223372036854775808) : bitsV .or .i64 (v * 2 ^ k) b = v * 2 ^ k + b := by
  obtain ⟨n, rfl⟩ := Int.eq_ofNat_of_zero_le hv
  obtain ⟨m, rfl⟩ := Int.eq_ofNat_of_zero_le hb.1
  have hm : m < 2 ^ k := by have := hb.2; exact_mod_cast this
  have h1 : ((n : Int) * 2 ^ k) = ((n * 2 ^ k : Nat) : Int) := by rw [Int.natCast_mul, Int.natCast_pow]; rfl
  rw [h1] at hbd ⊢
  have h2 : n * 2 ^ k + m < 2 ^ 63 := by omega
  rw [orI64 _ _ (by omega) (by omega), ← Nat.shiftLeft_eq, ← Nat.shiftLeft_add_eq_or_of_lt hm]
  omega

theorem FGet_spec (h : H) (base : Option Addr) (n c : Nat) (bs : List Int) (hr : Bytes h base n bs) (hb : ∀ x ∈ bs, isByte x) (hn : n ≤ 7) :
    Fn Pg 88 #[.slice base n c] h fun v h' => v = .tuple #[.int .i64 (leV bs), .bool true] ∧ h' = h := by
  have hl := hr.1
  refine g88 (args := [_]) ?_
  refine CLt.f (by omega) ?_
  refine Ar.fit64 (by omega) ?_
  refine LoopH.mk (σ := Nat) (fun i => [(5, .int .i64 ((i : Int) - 1)), (4, .int .i64 (leV (bs.drop i)))]) (fun i h2 => i ≤ n ∧ h2 = h) (fun i _ => i) n ⟨rfl, by rw [List.drop_of_length_le (by omega)]; rfl, trivial⟩ ⟨Nat.le_refl _, rfl⟩ ?_
  rintro i h2 g ⟨hi, rfl⟩
  refine CLe.mk (fun hlt => ?_) (fun hge => ?_)
  · obtain ⟨j, rfl⟩ : ∃ j, i = j + 1 := ⟨i - 1, by omega⟩
    have hd : bs.drop j = bs.getD j 0 :: bs.drop (j + 1) := by
      rw [List.drop_eq_getElem_cons (by omega), List.getD_eq_getElem?_getD, List.getElem?_eq_getElem (by omega)]
      rfl
    have hbj : isByte (bs.getD j 0) := getD_all (p := isByte) hb (by unfold isByte; omega) j
    have hv := leV_bd (bs.drop (j + 1)) fun x hx => hb x (List.mem_of_mem_drop hx)
    have hp : (256 : Int) ^ (bs.drop (j + 1)).length ≤ 281474976710656 := by
      have : (256 : Nat) ^ (bs.drop (j + 1)).length ≤ 281474976710656 := Nat.le_trans (Nat.pow_le_pow_right (by omega) (show (bs.drop (j + 1)).length ≤ 6 by rw [List.length_drop]; omega)) (by decide)
      have := Int.ofNat_le.2 this
      rw [Int.natCast_pow] at this
      exact this
    unfold isByte at hbj
    refine Shl.any (by omega) fun x hx => ?_
    refine Ix.num hr (by omega) (by omega) fun a ha => ?_
    refine Ld.mk ha ?_
    rw [show ((((j + 1 : Nat) : Int) - 1)).toNat = j from by omega]
    refine Ar.fit64 (by omega) ?_
    refine Bits.any fun y hy => ?_
    refine Ar.fit64 (by omega) ?_
    refine ⟨j, ⟨by show Value.int _ _ = _; congr 1; omega, ?_, trivial⟩, ⟨by omega, rfl⟩, by omega⟩
    show Value.int .i64 y = _
    have hx2 : x = leV (bs.drop (j + 1)) * 2 ^ 8 := by
      rw [hx, show min (8 : Int).toNat IntKind.i64.bits = 8 from rfl, wrap64_id (by omega)]
    rw [hy, hx2, or_low hv.1 (by omega) (by omega), hd, leV]
    congr 1
    omega
  · have : i = 0 := by omega
    subst this
    exact ⟨rfl, rfl⟩

/-- Numbers of bytes that stand one behind the other. -/
def takeN : List Nat → List Int → List Int
  | [], _ => []
  | w :: r, bs => leV (bs.take w) :: takeN r (bs.drop w)
theorem takeN_len : ∀ (ws : List Nat) (bs : List Int), (takeN ws bs).length = ws.length := by intro ws; induction ws <;> simp [takeN, *]
theorem Nums.drop {q : IntKind} {h : H} {n i : Nat} {xs : List Int} {base' : Option Addr} (hr : Rds h base' ((xs.map (.int q)).drop (i * 1))) (hl : xs.length = n) : Nums q h base' (n - i) (xs.drop i) :=
  ⟨by simp; omega, by rw [List.map_drop]; simpa using hr⟩
theorem FTake_spec (h : H) (base : Option Addr) (n c : Nat) (bs : List Int) (b2 : Option Addr) (n2 c2 : Nat) (ws : List Nat) (hr : Bytes h base n bs) (hnc : n ≤ c) (hb : ∀ x ∈ bs, isByte x) (h2 : Ints h b2 n2 (ws.map (fun (w : Nat) => (w : Int)))) (h7 : ∀ w ∈ ws, w ≤ 7) (hsum : ws.sum ≤ n) (hn2 : n2 ≤ 1000) :
    Fn Pg 54 #[.slice base n c, .slice b2 n2 c2] h fun v h' => ∃ b1 c1, v = .tuple #[.slice b1 n2 c1, .bool true] ∧ OwnS h' h.size b1 n2 c1 1 ((takeN ws bs).map (.int .i64)) ∧ Only [] h h' := by
  have hl := hr.1
  have hl2 := h2.1
  simp only [List.length_map] at hl2
  refine g54 (args := [_, _]) ?_
  refine LoopH.mk (σ := Nat × (Option Addr × Nat × Nat) × (Option Addr × Nat)) (fun (i, (b, m, cc), (b1, c1)) => [(13, .int .i64 i), (0, .slice b m cc), (6, .slice b1 i c1)])
    (fun (i, (b, m, cc), (b1, c1)) h3 => i ≤ n2 ∧ m ≤ cc ∧ Bytes h3 b m (bs.drop (ws.take i).sum) ∧ (ws.drop i).sum ≤ m ∧ Only [] h h3 ∧ (∀ x ∈ blks b, x ∈ blks base) ∧ OwnS h3 h.size b1 i c1 1 ((takeN (ws.take i) bs).map (.int .i64)))
    (fun (i, _, _) _ => n2 - i) (0, (base, n, c), (none, 0)) ⟨rfl, rfl, rfl, trivial⟩ ⟨by omega, hnc, by simpa using hr, by simpa using hsum, Only.refl _ _, fun _ h => h, by simpa [takeN] using OwnS.nil h h.size 1⟩ ?_
  rintro ⟨i, ⟨b, m, cc⟩, ⟨b1, c1⟩⟩ h3 g ⟨hi, hmc, hr3, hsm, ho3, hbb, hown3⟩
  refine CLt.mk (fun hlt => ?_) (fun hge => ?_)
  rotate_left
  · have : i = n2 := by omega
    subst this
    rw [List.take_of_length_le (by omega)] at hown3
    exact ⟨b1, c1, rfl, hown3, ho3⟩
  have hi' : i < ws.length := by omega
  have hd : ws.drop i = ws[i] :: ws.drop (i + 1) := List.drop_eq_getElem_cons hi'
  have hwi : ws[i] ≤ 7 := h7 _ (List.getElem_mem hi')
  have hws : ws[i] ≤ m := by rw [hd, List.sum_cons] at hsm; omega
  refine Ix.num (h2.keep0 ho3) (by omega) (by omega) fun a ha => ?_
  refine Ld.mk ha ?_
  have hgd : (ws.map (fun (w : Nat) => (w : Int))).getD ((i : Int)).toNat 0 = (ws[i] : Int) := by
    rw [show ((i : Int)).toNat = i from by omega, List.getD_eq_getElem?_getD, List.getElem?_map, List.getElem?_eq_getElem hi']
    rfl
  rw [hgd]
  refine CLt.f (by omega) ?_
  refine CLt.f (by omega) ?_
  refine CLt.f (by omega) ?_
  refine Sl.pre (by omega) (by omega) ?_
  rw [show ((ws[i] : Int)).toNat = ws[i] from by omega]
  have hr3l := hr3.1
  refine (FGet_spec h3 b ws[i] cc ((bs.drop (ws.take i).sum).take ws[i]) (hr3.take hws) (fun x hx => hb x (List.mem_of_mem_drop (List.mem_of_mem_take hx))) (by omega)).use ?_
  rintro v h4 ⟨rfl, rfl⟩
  refine Sl.suf (vs := (bs.drop (ws.take i).sum).map (.int .u8)) hr3.2 (by simpa using hr3l) (by omega) (by omega) hmc fun b6 hr6 hb6 _ => ?_
  rw [show ((ws[i] : Int)).toNat = ws[i] from by omega] at hr6 ⊢
  have hr6' : Bytes h4 b6 (m - ws[i]) ((bs.drop (ws.take i).sum).drop ws[i]) := Nums.drop hr6 hr3l
  refine New.app (cs := [.int .i64 _]) hown3 rfl (by simp [Value.oneCell']) (by decide) rfl (by omega) (by decide) ho3.size fun r h5 b5 c5 hown5 ho5 _ => ?_
  refine Ar.fit64 (by omega) ?_
  have hsum1 : (ws.take (i + 1)).sum = (ws.take i).sum + ws[i] := by
    rw [List.take_succ_eq_append_getElem hi', List.sum_append]; simp
  have htk : ∀ (l : List Nat) (w : Nat) (xs : List Int), takeN (l ++ [w]) xs = takeN l xs ++ [leV ((xs.drop l.sum).take w)] := by
    intro l
    induction l with
    | nil => intro w xs; simp [takeN]
    | cons u l ih =>
      intro w xs
      rw [List.cons_append, takeN, takeN, ih, List.drop_drop, List.sum_cons, List.cons_append]
  have hdis : ∀ x ∈ blks b6, x ∉ blks b1 := fun x hx hm => by
    have h1 := hown3.lo x hm
    have h2 := hr3.2
    have h3' : x ∈ blks base := hbb x (hb6 x hx)
    have hb0 := hr.2
    cases base with
    | none => simp [blks] at h3'
    | some a => simp [blks] at h3'; subst h3'; have := hb0.2.1; omega
  refine ⟨(i + 1, (b6, m - ws[i], cc - ws[i]), (b5, c5)), ⟨rfl, rfl, rfl, trivial⟩, ⟨by omega, by omega, ?_, ?_, ho3.trans' ho5 (fun x hx => .inr (hown3.lo x hx)), fun x hx => hbb x (hb6 x hx), ?_⟩, by show n2 - (i + 1) < n2 - i; omega⟩
  · rw [hsum1, ← List.drop_drop]
    exact hr6'.keep ho5 hdis
  · rw [hd, List.sum_cons] at hsm; omega
  · rw [List.take_succ_eq_append_getElem hi', htk, List.map_append]
    exact hown5

/-- Rows of bytes that slices lead to. -/
def Rows (h : H) : List Value → List (List Int) → Prop
  | [], [] => True
  | v :: vs, r :: rs => (∃ b n c, v = .slice b n c ∧ Bytes h b n r) ∧ Rows h vs rs
  | _, _ => False
theorem Rows.len {h : H} : ∀ {vs : List Value} {rs : List (List Int)}, Rows h vs rs → vs.length = rs.length := by
  intro vs
  induction vs with
  | nil => intro rs hr; cases rs <;> first | rfl | exact hr.elim
  | cons v vs ih => intro rs hr; cases rs <;> first | exact hr.elim | simp [ih hr.2]
theorem Rows.at {h : H} : ∀ {vs : List Value} {rs : List (List Int)} {i : Nat}, Rows h vs rs → i < rs.length → ∃ b n c, vs[i]? = some (.slice b n c) ∧ Bytes h b n (rs.getD i []) := by
  intro vs
  induction vs with
  | nil =>
    intro rs i hr hi
    cases rs with
    | nil => simp at hi
    | cons _ _ => exact hr.elim
  | cons v vs ih =>
    intro rs i hr hi
    cases rs with
    | nil => exact hr.elim
    | cons r rs =>
      cases i with
      | zero => obtain ⟨⟨b, n, c, rfl, h1⟩, _⟩ := hr; exact ⟨b, n, c, rfl, h1⟩
      | succ i =>
        obtain ⟨b, n, c, h1, h2⟩ := ih hr.2 (by simpa using hi)
        exact ⟨b, n, c, by simpa using h1, by simpa using h2⟩
theorem Rows.keep0 {h h' : H} (ho : Only [] h h') : ∀ {vs : List Value} {rs : List (List Int)}, Rows h vs rs → Rows h' vs rs := by
  intro vs
  induction vs with
  | nil => intro rs hr; cases rs <;> first | trivial | exact hr.elim
  | cons v vs ih => intro rs hr; cases rs with
    | nil => exact hr.elim
    | cons r rs => obtain ⟨⟨b, n, c, rfl, h1⟩, h2⟩ := hr; exact ⟨⟨b, n, c, rfl, h1.keep0 ho⟩, ih h2⟩
theorem FJoin_spec (h : H) (base : Option Addr) (n c : Nat) (vs : List Value) (rs : List (List Int)) (hr : Rds h base vs) (hn : vs.length = n) (hrs : Rows h vs rs) (hsz : (rs.flatten).length ≤ 2 ^ 40) (hlt : n ≤ 2 ^ 30) :
    Fn Pg 74 #[.slice base n c] h fun v h' => ∃ b1 c1, v = .slice b1 rs.flatten.length c1 ∧ OwnS h' h.size b1 rs.flatten.length c1 1 (rs.flatten.map (.int .u8)) ∧ Only [] h h' := by
  have hl := hrs.len
  refine g74 (args := [_]) ?_
  refine LoopH.mk (σ := Nat × (Option Addr × Nat)) (fun (i, (b1, c1)) => [(8, .int .i64 i), (3, .slice b1 (rs.take i).flatten.length c1)])
    (fun (i, (b1, c1)) h3 => i ≤ n ∧ Only [] h h3 ∧ OwnS h3 h.size b1 (rs.take i).flatten.length c1 1 ((rs.take i).flatten.map (.int .u8))) (fun (i, _) _ => n - i) (0, (none, 0)) ⟨rfl, rfl, trivial⟩ ⟨by omega, Only.refl _ _, OwnS.nil _ _ _⟩ ?_
  rintro ⟨i, ⟨b1, c1⟩⟩ h3 g ⟨hi, ho3, hown3⟩
  refine CLt.mk (fun hlt => ?_) (fun hge => ?_)
  rotate_left
  · have : i = n := by omega
    subst this
    rw [List.take_of_length_le (by omega)] at hown3 ⊢
    exact ⟨b1, c1, rfl, hown3, ho3⟩
  obtain ⟨b2, n2, c2, hv, hb2⟩ := Rows.at (i := i) (hrs.keep0 ho3) (by omega)
  have hr3 := hr.keep0 ho3
  obtain ⟨a, rfl⟩ : ∃ a, base = some a := by
    cases base with
    | none => have : vs = [] := hr; subst this; simp at hv
    | some a => exact ⟨a, rfl⟩
  refine Ix.mk (by omega) (by omega) rfl ?_
  refine Ld.mk (v := .slice b2 n2 c2) ?_ ?_
  · have := Row.cell hr3 hv
    rwa [show ((i : Int)).toNat * 1 = i from by omega]
  have htl : (rs.take (i + 1)).flatten = (rs.take i).flatten ++ rs.getD i [] := by
    rw [List.take_succ_eq_append_getElem (by omega), List.flatten_append, List.getD_eq_getElem?_getD, List.getElem?_eq_getElem (by omega)]
    simp
  have htle : (rs.take (i + 1)).flatten.length ≤ rs.flatten.length := by
    conv => rhs; rw [← List.take_append_drop (i + 1) rs, List.flatten_append, List.length_append]
    omega
  have hb2l := hb2.1
  have hlen2 := congrArg List.length htl
  rw [List.length_append] at hlen2
  refine App.own hown3 hb2.2 (by rw [List.length_map]; omega) (by intro v hv; obtain ⟨x, _, rfl⟩ := List.mem_map.1 hv; rfl) (by decide) rfl (by omega) (by decide) ho3.size fun h5 b5 c5 hown5 ho5 _ => ?_
  refine Ar.fit64 (by omega) ?_
  rw [← hb2l, ← List.length_append, ← htl]
  refine ⟨(i + 1, (b5, c5)), ⟨rfl, rfl, trivial⟩, ⟨by omega, ho3.trans' ho5 (fun x hx => .inr (hown3.lo x hx)), ?_⟩, by show n - (i + 1) < n - i; omega⟩
  rw [← hb2l, ← List.map_append, ← List.length_append, ← htl] at hown5
  exact hown5

theorem BEqual_spec (h : H) (b1 : Option Addr) (n1 c1 : Nat) (xs : List Int) (b2 : Option Addr) (n2 c2 : Nat) (ys : List Int) (h1 : Bytes h b1 n1 xs) (h2 : Bytes h b2 n2 ys) (hx : ∀ x ∈ xs, isByte x) (hy : ∀ x ∈ ys, isByte x) :
    Fn Pg 56 #[.slice b1 n1 c1, .slice b2 n2 c2] h fun v h' => v = .bool (decide (xs = ys)) ∧ h' = h := by
  refine g56 (args := [_, _]) ?_
  refine Raw.b2s (by kernel_rfl) (by kernel_rfl) rfl h1 ?_
  refine Raw.b2s (by kernel_rfl) (by kernel_rfl) rfl h2 ?_
  refine Raw.eqs rfl rfl ?_
  exact ⟨by rw [strOf_beq hx hy]; rfl, rfl⟩
end Go.Proofs.YtiabgojnljfmhaaGreat.Ov.W
