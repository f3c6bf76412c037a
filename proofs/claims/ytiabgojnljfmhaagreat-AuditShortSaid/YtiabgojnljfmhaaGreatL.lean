/-
  THE RULES BY WHICH A SMALL TEXT IS WALKED: reads, stores, new blocks, arithmetic, tests, loops, calls. No condition: every statement is for every program.
-/
import Derived.Test.YtiabgojnljfmhaaGreatB
import Derived.Laws.AppendOwn
namespace Go.Proofs.YtiabgojnljfmhaaGreat.Ov

/-! ### Blocks, and what has not been touched -/
/-- A whole block of cells, none of them frozen. -/
def Blk (h : H) (b : Nat) (cs : List Value) : Prop := ∃ T fz, h[b]? = some (.cells cs.toArray T fz) ∧ okz cs.length fz
theorem Blk.mk {h : H} {b : Nat} {cs : List Value} {T : TypeId} (hb : h[b]? = some (.cells cs.toArray T)) : Blk h b cs := ⟨T, (0, 0), hb, .inl rfl⟩
theorem Blk.lt {h : H} {b : Nat} {cs : List Value} (hb : Blk h b cs) : b < h.size := by
  obtain ⟨T, fz, hb, _⟩ := hb
  exact (Array.getElem?_eq_some_iff.1 hb).1
theorem Blk.keep {M : List Nat} {h h' : H} {b : Nat} {cs : List Value} (ho : Only M h h') (hn : b ∉ M) (hb : Blk h b cs) : Blk h' b cs := by
  have hl := hb.lt
  obtain ⟨T, fz, hb, hz⟩ := hb
  exact ⟨T, fz, by rw [ho.same b hl hn, hb], hz⟩
theorem Blk.sims {h h' : H} {b : Nat} {cs : List Value} (ho : Sims h h') (hb : Blk h b cs) : Blk h' b cs := by
  have hl := hb.lt
  obtain ⟨T, fz, hb, hz⟩ := hb
  rcases ho.sim b hl with e | ⟨c, T', gz, gz', h1, h2, _, h4⟩
  · exact ⟨T, fz, by rw [e, hb], hz⟩
  · rw [hb] at h1
    injection h1 with h1
    injection h1 with e1 e2 e3
    subst e1 e2 e3
    exact ⟨T, gz', h2, by simpa using h4⟩
theorem Blk.cell {h : H} {b i : Nat} {cs : List Value} {v : Value} (hb : Blk h b cs) (hi : cs[i]? = some v) : hcell h ⟨b, i, none⟩ = some v := by
  obtain ⟨T, fz, hb, _⟩ := hb
  unfold hcell
  simp only [hb]
  simpa using hi
theorem Blk.free {h : H} {b i : Nat} {cs : List Value} (hb : Blk h b cs) (hi : i < cs.length) : hfroz h ⟨b, i, none⟩ = false := by
  obtain ⟨T, fz, hb, hz⟩ := hb
  unfold hfroz
  simp only [hb]
  exact hz.free hi
theorem Blk.set {h : H} {b i : Nat} {cs : List Value} (hb : Blk h b cs) (v : Value) : Blk (hset h ⟨b, i, none⟩ v) b (cs.set i v) := by
  obtain ⟨T, fz, hb, hz⟩ := hb
  refine ⟨T, fz, ?_, by simpa using hz⟩
  unfold hset
  rw [Array.getElem?_modify]
  simp [hb]
theorem only_hset (h : H) (a : Addr) (v : Value) : Only [a.block] h (hset h a v) := by
  refine ⟨by simp [hset], fun b _ hn => ?_⟩
  unfold hset
  rw [Array.getElem?_modify, if_neg (by simpa using fun h' => hn (by simp [h']))]
theorem Blk.one {h : H} {b : Nat} {cs ds : List Value} (h1 : Blk h b cs) (h2 : Blk h b ds) : cs = ds := by
  obtain ⟨T, fz, h1, _⟩ := h1
  obtain ⟨T2, fz2, h2, _⟩ := h2
  rw [h1] at h2
  injection h2 with h2
  injection h2 with h2
  simpa using congrArg Array.toList h2

/-! ### Rows that are read -/
/-- From address a on the cells hold vs. -/
def Row (h : H) (a : Addr) (vs : List Value) : Prop :=
  a.spot = none ∧ a.block < h.size ∧ ∀ i v, vs[i]? = some v → hcell h ⟨a.block, a.off + i, none⟩ = some v
def Rds (h : H) (base : Option Addr) (vs : List Value) : Prop :=
  match base with
  | none => vs = []
  | some a => Row h a vs

theorem add_eq {a : Addr} (h : a.spot = none) (n : Nat) : a.add n = ⟨a.block, a.off + n, none⟩ := by
  unfold Addr.add
  split
  · rename_i h0
    obtain ⟨b, o, s⟩ := a
    simp only at h
    subst h h0
    rfl
  · rfl
theorem Row.cell {h : H} {a : Addr} {vs : List Value} {i : Nat} {v : Value} (hr : Row h a vs) (hv : vs[i]? = some v) : hcell h (a.add i) = some v := by
  rw [add_eq hr.1]
  exact hr.2.2 i v hv
theorem Row.keep {M : List Nat} {h h' : H} {a : Addr} {vs : List Value} (ho : Only M h h') (hn : a.block ∉ M) (hr : Row h a vs) : Row h' a vs :=
  ⟨hr.1, Nat.lt_of_lt_of_le hr.2.1 ho.size, fun i v hv => by rw [hcell_keep (a := ⟨a.block, a.off + i, none⟩) ho hr.2.1 hn]; exact hr.2.2 i v hv⟩
theorem Blk.row {h : H} {b : Nat} {cs : List Value} (hb : Blk h b cs) : Row h ⟨b, 0, none⟩ cs :=
  ⟨rfl, hb.lt, fun i v hv => by rw [Nat.zero_add]; exact hb.cell hv⟩
theorem Row.sims {h h' : H} {a : Addr} {vs : List Value} (ho : Sims h h') (hr : Row h a vs) : Row h' a vs :=
  ⟨hr.1, Nat.lt_of_lt_of_le hr.2.1 ho.size, fun i v hv => ho.hcell (hr.2.2 i v hv)⟩
theorem Rds.sims {h h' : H} {base : Option Addr} {vs : List Value} (ho : Sims h h') (hr : Rds h base vs) : Rds h' base vs := by
  cases base with
  | none => exact hr
  | some a => exact Row.sims ho hr
theorem one_int {q : IntKind} {xs : List Int} : ∀ v ∈ xs.map (Value.int q), v.oneCell' = true := by
  intro v hv; obtain ⟨x, _, rfl⟩ := List.mem_map.1 hv; rfl
theorem Row.take {h : H} {a : Addr} {vs us : List Value} (hr : Row h a (vs ++ us)) : Row h a vs :=
  ⟨hr.1, hr.2.1, fun i v hv => hr.2.2 i v (by rw [List.getElem?_append_left (List.getElem?_eq_some_iff.1 hv).1]; exact hv)⟩
theorem Row.drop {h : H} {a : Addr} {vs us : List Value} (hr : Row h a (vs ++ us)) : Row h (a.add vs.length) us := by
  rw [add_eq hr.1]
  refine ⟨rfl, hr.2.1, fun i v hv => ?_⟩
  have := hr.2.2 (vs.length + i) v (by rw [List.getElem?_append_right (by omega)]; simpa using hv)
  simpa [Nat.add_assoc] using this

/-- The blocks that a slice's value leads to. -/
def blks (base : Option Addr) : List Nat :=
  match base with
  | none => []
  | some a => [a.block]
theorem Rds.lt {h : H} {base : Option Addr} {vs : List Value} (hr : Rds h base vs) : ∀ b ∈ blks base, b < h.size := by
  cases base with
  | none => intro b hb; cases hb
  | some a => intro b hb; simp [blks] at hb; subst hb; exact hr.2.1
theorem Rds.keep {M : List Nat} {h h' : H} {base : Option Addr} {vs : List Value} (ho : Only M h h') (hn : ∀ b ∈ blks base, b ∉ M) (hr : Rds h base vs) : Rds h' base vs := by
  cases base with
  | none => exact hr
  | some a => exact Row.keep ho (hn _ (by simp [blks])) hr
theorem Rds.keep0 {h h' : H} {base : Option Addr} {vs : List Value} (ho : Only [] h h') (hr : Rds h base vs) : Rds h' base vs := hr.keep ho fun _ _ h => by cases h

theorem cellsAt_of : ∀ (vs : List Value) (h : H) (a : Addr) (i : Nat), (∀ j v, vs[j]? = some v → hcell h (a.add (i + j)) = some v) → cellsAt h a i vs := by
  intro vs
  induction vs with
  | nil => intro h a i _; trivial
  | cons v r ih =>
    intro h a i hv
    refine ⟨by simpa using hv 0 v rfl, ih h a (i + 1) fun j u hu => ?_⟩
    have := hv (j + 1) u (by simpa using hu)
    rwa [show i + (j + 1) = i + 1 + j from by omega] at this
theorem Row.cellsAt {h : H} {a : Addr} {vs : List Value} (hr : Row h a vs) : cellsAt h a 0 vs :=
  cellsAt_of vs h a 0 fun j v hv => by rw [Nat.zero_add]; exact hr.cell hv
theorem Rds.readsAs {h : H} {base : Option Addr} {vs : List Value} {n : Nat} (hr : Rds h base vs) (hn : vs.length = n) : readsAs h base n vs := by
  cases base with
  | none => exact hr
  | some a => exact ⟨hn, Row.cellsAt hr⟩

/-! ### Numbers in a row -/
def Nums (q : IntKind) (h : H) (base : Option Addr) (n : Nat) (xs : List Int) : Prop := xs.length = n ∧ Rds h base (xs.map (.int q))
abbrev Ints := Nums .i64
abbrev Bytes := Nums .u8
theorem Nums.keep {q : IntKind} {M : List Nat} {h h' : H} {base : Option Addr} {n : Nat} {xs : List Int} (ho : Only M h h') (hn : ∀ b ∈ blks base, b ∉ M) (hr : Nums q h base n xs) : Nums q h' base n xs :=
  ⟨hr.1, hr.2.keep ho hn⟩
theorem Nums.keep0 {q : IntKind} {h h' : H} {base : Option Addr} {n : Nat} {xs : List Int} (ho : Only [] h h') (hr : Nums q h base n xs) : Nums q h' base n xs := ⟨hr.1, hr.2.keep0 ho⟩
theorem Nums.sims {q : IntKind} {h h' : H} {base : Option Addr} {n : Nat} {xs : List Int} (ho : Sims h h') (hr : Nums q h base n xs) : Nums q h' base n xs := ⟨hr.1, hr.2.sims ho⟩
theorem Nums.nil (q : IntKind) (h : H) : Nums q h none 0 [] := ⟨rfl, rfl⟩
theorem Nums.at {q : IntKind} {h : H} {base : Option Addr} {n : Nat} {xs : List Int} (hr : Nums q h base n xs) {i : Nat} (hi : i < n) : ∃ a, base = some a ∧ hcell h (a.add i) = some (.int q (xs.getD i 0)) := by
  obtain ⟨hl, hr⟩ := hr
  cases base with
  | none => simp [Rds] at hr; subst hr; simp at hl; omega
  | some a =>
    refine ⟨a, rfl, Row.cell hr ?_⟩
    rw [List.getElem?_map, List.getD_eq_getElem?_getD]
    rw [List.getElem?_eq_getElem (by omega)]
    rfl

theorem Nums.take {q : IntKind} {h : H} {base : Option Addr} {n i : Nat} {xs : List Int} (hr : Nums q h base n xs) (hi : i ≤ n) : Nums q h base i (xs.take i) := by
  have hl := hr.1
  refine ⟨by simp; omega, ?_⟩
  have h2 := hr.2
  rw [← List.take_append_drop i xs, List.map_append] at h2
  cases base with
  | none => simp [Rds] at h2; subst h2; simp [Rds]
  | some a => exact Row.take h2

/-! ### Rules -/
section
variable {h : H}

theorem Ld.mk {a : Addr} {v : Value} {k : Value → Prop} (hc : hcell h a = some v) (hk : k v) : Ld h a k := by
  unfold Ld; exact ⟨v, hc, hk⟩
/-- A cell of a block that is known whole. -/
theorem Ld.blk {b i : Nat} {cs : List Value} {v : Value} {k : Value → Prop} (hb : Blk h b cs) (hv : cs[i]? = some v) (hk : k v) : Ld h ⟨b, i, none⟩ k := Ld.mk (hb.cell hv) hk
theorem LdN.row {a : Addr} {n : Nat} {vs : List Value} {k : Value → Prop} (hr : Row h a vs) (hn : vs.length = n) (hk : k (.agg vs.toArray)) : LdN h a n k := by
  unfold LdN; exact ⟨vs, hn, hr.cellsAt, hk⟩
theorem St.blk {b i : Nat} {cs : List Value} {v : Value} {k : H → Prop} (hb : Blk h b cs) (hi : i < cs.length) (hv : v.oneCell' = true)
    (hk : ∀ h', Blk h' b (cs.set i v) → Only [b] h h' → h'.size = h.size → k h') : St h ⟨b, i, none⟩ v k := by
  unfold St
  refine ⟨hv, ⟨cs[i], hb.cell (List.getElem?_eq_getElem hi)⟩, hb.free hi, hk _ (hb.set v) (only_hset h ⟨b, i, none⟩ v) (by simp [hset])⟩
theorem New.mk {o : Obj} {k : Nat → H → Prop} (hk : ∀ h', h'.size = h.size + 1 → h'[h.size]? = some o → Only [] h h' → k h.size h') : New h o k := by
  unfold New
  refine hk _ (by simp) (by simp) ⟨by simp, fun b hb _ => ?_⟩
  rw [Array.getElem?_push, if_neg (by omega)]
theorem New.blk {cs : List Value} {T : TypeId} {k : Nat → H → Prop} (hk : ∀ h', h'.size = h.size + 1 → Blk h' h.size cs → Only [] h h' → k h.size h') : New h (.cells cs.toArray T) k :=
  New.mk fun h' h1 h2 h3 => hk h' h1 (.mk h2) h3

theorem Ar.fit64 {n : Int} {k : Int → Prop} (h1 : -9223372036854775808 ≤ n ∧ n ≤ 9223372036854775807) (hk : k n) : Ar .i64 n k := by
  unfold Ar
  have : IntKind.i64.wrap n = n := by
    unfold IntKind.wrap IntKind.bits IntKind.signed
    simp
    omega
  rw [this]; exact hk
theorem Ar.fit8 {n : Int} {k : Int → Prop} (h1 : 0 ≤ n ∧ n ≤ 255) (hk : k n) : Ar .u8 n k := by
  unfold Ar
  have : IntKind.u8.wrap n = n := by
    unfold IntKind.wrap IntKind.bits IntKind.signed
    simp
    omega
  rw [this]; exact hk
/-- Whatever the number is. -/
theorem Ar.any {q : IntKind} {n : Int} {k : Int → Prop} (hk : ∀ m, m = q.wrap n → k m) : Ar q n k := by
  unfold Ar; exact hk _ rfl
theorem Quo.nn {q : IntKind} {a b : Int} {k : Int → Prop} (ha : 0 ≤ a) (hb : 0 < b) (hw : q.wrap (a / b) = a / b) (hk : k (a / b)) : Quo q a b k := by
  unfold Quo
  refine ⟨by omega, ?_⟩
  rw [Int.tdiv_eq_ediv_of_nonneg ha, hw]; exact hk
theorem wrap64_id {n : Int} (h1 : -9223372036854775808 ≤ n ∧ n ≤ 9223372036854775807) : IntKind.i64.wrap n = n := by
  unfold IntKind.wrap IntKind.bits IntKind.signed
  simp
  omega
theorem Quo.nn64 {a b : Int} {k : Int → Prop} (ha : 0 ≤ a ∧ a ≤ 9223372036854775807) (hb : 0 < b) (hk : k (a / b)) : Quo .i64 a b k :=
  Quo.nn ha.1 hb (wrap64_id ⟨by have := Int.ediv_nonneg ha.1 (Int.le_of_lt hb); omega, by have := Int.ediv_le_self b ha.1; omega⟩) hk
theorem Quo.any {q : IntKind} {a b : Int} {k : Int → Prop} (hb : b ≠ 0) (hk : ∀ m, m = q.wrap (a.tdiv b) → k m) : Quo q a b k := by
  unfold Quo; exact ⟨hb, hk _ rfl⟩
theorem Rem.nn {a b : Int} {k : Int → Prop} (ha : 0 ≤ a) (hb : 0 < b) (hk : k (a % b)) : Rem a b k := by
  unfold Rem
  refine ⟨by omega, ?_⟩
  rw [Int.tmod_eq_emod_of_nonneg ha]; exact hk
theorem Rem.any {a b : Int} {k : Int → Prop} (hb : b ≠ 0) (hk : ∀ m, m = a.tmod b → k m) : Rem a b k := by
  unfold Rem; exact ⟨hb, hk _ rfl⟩
theorem Shr.any {q : IntKind} {a b : Int} {k : Int → Prop} (hb : 0 ≤ b) (hk : ∀ m, m = a.fdiv (2 ^ min b.toNat q.bits) → k m) : Shr q a b k := by
  unfold Shr; exact ⟨hb, hk _ rfl⟩
theorem Shl.any {q : IntKind} {a b : Int} {k : Int → Prop} (hb : 0 ≤ b) (hk : ∀ m, m = q.wrap (a * 2 ^ min b.toNat q.bits) → k m) : Shl q a b k := by
  unfold Shl; exact ⟨hb, hk _ rfl⟩
theorem Bits.any {op : BinOp} {q : IntKind} {a b : Int} {k : Int → Prop} (hk : ∀ m, m = bitsV op q a b → k m) : Bits op q a b k := by
  unfold Bits; exact hk _ rfl

theorem CLt.mk {a b : Int} {k : Bool → Prop} (ht : a < b → k true) (hf : b ≤ a → k false) : CLt a b k := by
  unfold CLt
  by_cases hh : a < b
  · rw [decide_eq_true hh]; exact ht hh
  · rw [decide_eq_false hh]; exact hf (by omega)
theorem CLt.t {a b : Int} {k : Bool → Prop} (hh : a < b) (hk : k true) : CLt a b k := by unfold CLt; rw [decide_eq_true hh]; exact hk
theorem CLt.f {a b : Int} {k : Bool → Prop} (hh : b ≤ a) (hk : k false) : CLt a b k := by unfold CLt; rw [decide_eq_false (by omega)]; exact hk
theorem CLe.mk {a b : Int} {k : Bool → Prop} (ht : a ≤ b → k true) (hf : b < a → k false) : CLe a b k := by
  unfold CLe
  by_cases hh : a ≤ b
  · rw [decide_eq_true hh]; exact ht hh
  · rw [decide_eq_false hh]; exact hf (by omega)
theorem CLe.t {a b : Int} {k : Bool → Prop} (hh : a ≤ b) (hk : k true) : CLe a b k := by unfold CLe; rw [decide_eq_true hh]; exact hk
theorem CLe.f {a b : Int} {k : Bool → Prop} (hh : b < a) (hk : k false) : CLe a b k := by unfold CLe; rw [decide_eq_false (by omega)]; exact hk
theorem CEq.mk {a b : Int} {k : Bool → Prop} (ht : a = b → k true) (hf : a ≠ b → k false) : CEq a b k := by
  unfold CEq
  by_cases hh : a = b
  · rw [beq_iff_eq.2 hh]; exact ht hh
  · rw [beq_eq_false_iff_ne.2 hh]; exact hf hh
theorem CEq.t {a b : Int} {k : Bool → Prop} (hh : a = b) (hk : k true) : CEq a b k := by unfold CEq; rw [beq_iff_eq.2 hh]; exact hk
theorem CEq.f {a b : Int} {k : Bool → Prop} (hh : a ≠ b) (hk : k false) : CEq a b k := by unfold CEq; rw [beq_eq_false_iff_ne.2 hh]; exact hk
theorem CNe.mk {a b : Int} {k : Bool → Prop} (ht : a ≠ b → k true) (hf : a = b → k false) : CNe a b k := by
  unfold CNe
  by_cases hh : a = b
  · rw [show (a != b) = false from by simp [hh]]; exact hf hh
  · rw [show (a != b) = true from by simp [hh]]; exact ht hh
theorem CNe.t {a b : Int} {k : Bool → Prop} (hh : a ≠ b) (hk : k true) : CNe a b k := by unfold CNe; rw [show (a != b) = true from by simp [hh]]; exact hk
theorem CNe.f {a b : Int} {k : Bool → Prop} (hh : a = b) (hk : k false) : CNe a b k := by unfold CNe; rw [show (a != b) = false from by simp [hh]]; exact hk

theorem Ix.mk {base : Option Addr} {len : Nat} {i : Int} {sz : Nat} {k : Addr → Prop} {a : Addr} (h0 : 0 ≤ i) (h1 : i < len) (hb : base = some a) (hk : k (a.add (i.toNat * sz))) : Ix base len i sz k := by
  unfold Ix; exact ⟨h0, h1, a, hb, hk⟩
theorem Ix.own {base : Option Addr} {len : Nat} {i : Int} {sz b j : Nat} {k : Addr → Prop} (h0 : 0 ≤ i) (h1 : i < len) (hb : base = some ⟨b, 0, none⟩) (hj : i.toNat * sz = j) (hk : k ⟨b, j, none⟩) : Ix base len i sz k :=
  Ix.mk h0 h1 hb (by rw [add_eq rfl, hj, Nat.zero_add]; exact hk)
/-- An element of a row of numbers. -/
theorem Ix.num {q : IntKind} {base : Option Addr} {len : Nat} {i : Int} {k : Addr → Prop} {xs : List Int} (hr : Nums q h base len xs) (h0 : 0 ≤ i) (h1 : i < len)
    (hk : ∀ a, hcell h a = some (.int q (xs.getD i.toNat 0)) → k a) : Ix base len i 1 k := by
  obtain ⟨a, hb, hc⟩ := hr.at (i := i.toNat) (by omega)
  exact Ix.mk h0 h1 hb (hk _ (by rw [Nat.mul_one]; exact hc))
theorem Sl.mk {base : Option Addr} {cap : Nat} {lo hi mx : Int} {sz : Nat} {k : Value → Prop} (h0 : 0 ≤ lo) (h1 : lo ≤ hi) (h2 : hi ≤ mx) (h3 : mx ≤ cap)
    (hk : k (.slice (if mx.toNat = lo.toNat then base else base.map (·.add (lo.toNat * sz))) (hi.toNat - lo.toNat) (mx.toNat - lo.toNat))) : Sl base cap lo hi mx sz k := by
  unfold Sl; exact ⟨h0, h1, h2, h3, hk⟩

/-- The beginning of a slice. -/
theorem Sl.pre {base : Option Addr} {cap : Nat} {hi : Int} {sz : Nat} {k : Value → Prop} (h0 : 0 ≤ hi) (h1 : hi ≤ cap) (hk : k (.slice base hi.toNat cap)) : Sl base cap 0 hi cap sz k := by
  refine Sl.mk (by omega) h0 h1 (by omega) ?_
  have hb : (if ((cap : Int)).toNat = (0 : Int).toNat then base else base.map (·.add ((0 : Int).toNat * sz))) = base := by
    split
    · rfl
    · cases base with
      | none => rfl
      | some a => simp [Addr.add]
  rw [hb]
  simpa using hk
/-- The end of a slice that can be read. -/
theorem Sl.suf {base : Option Addr} {n cap : Nat} {lo : Int} {sz : Nat} {vs : List Value} {k : Value → Prop} (hr : Rds h base vs) (hl : vs.length = n * sz) (h0 : 0 ≤ lo) (h1 : lo ≤ n) (h2 : n ≤ cap)
    (hk : ∀ base', Rds h base' (vs.drop (lo.toNat * sz)) → (∀ b ∈ blks base', b ∈ blks base) → (base = none → base' = none) → k (.slice base' (n - lo.toNat) (cap - lo.toNat))) : Sl base cap lo n cap sz k := by
  refine Sl.mk h0 (by omega) (by omega) (by omega) ?_
  rw [show ((n : Int)).toNat = n from by omega, show ((cap : Int)).toNat = cap from by omega]
  cases base with
  | none =>
    have hv : vs = [] := hr
    subst hv
    simp only [Option.map_none, ite_self]
    exact hk none (by simp [Rds]) (by simp) (fun _ => rfl)
  | some a =>
    by_cases hc : cap = lo.toNat
    · rw [if_pos hc]
      refine hk _ ?_ (fun b hb => hb) (by simp)
      have : vs.drop (lo.toNat * sz) = [] := by
        apply List.drop_eq_nil_of_le
        rw [hl, show n = lo.toNat from by omega]
        exact Nat.le_refl _
      rw [this]
      exact ⟨hr.1, hr.2.1, by simp⟩
    · rw [if_neg hc]
      refine hk _ ?_ ?_ (by simp)
      · show Row h (a.add _) _
        rw [add_eq hr.1]
        refine ⟨rfl, hr.2.1, fun i v hv => ?_⟩
        have := hr.2.2 (lo.toNat * sz + i) v (by rw [List.getElem?_drop] at hv; exact hv)
        simpa [Nat.add_assoc] using this
      · intro b hb
        simp only [Option.map_some, blks, List.mem_singleton] at hb ⊢
        rw [hb, add_eq hr.1]

theorem Fn.use {P : Program} {f : FuncId} {args : Array Value} {R R' : Value → H → Prop} (hf : Fn P f args h R) (hr : ∀ v h', R v h' → R' v h') : Fn P f args h R' := hf.mono hr
end

/-! ### Loops -/
def dropK (mods : List Nat) (g : Nat → Value) : Env → (Env → Prop) → Prop
  | .base g0, k => k (.base fun t => bif mem t mods then g t else g0 t)
  | .put e t v, k => bif mem t mods then dropK mods g e k else dropK mods g e fun e => k (.put e t v)
theorem dropK_eq (mods : List Nat) (g : Nat → Value) : ∀ (e : Env) (k : Env → Prop), dropK mods g e k = k (e.drop mods g) := by
  intro e
  induction e with
  | base _ => intro k; rfl
  | put e t v ih =>
    intro k
    simp only [dropK, Env.drop]
    cases mem t mods <;> simp [ih]
def putsK : List (Nat × Value) → Env → (Env → Prop) → Prop
  | [], e, k => k e
  | (t, v) :: r, e, k => force v fun v => putsK r (e.put t v) k
theorem putsK_eq : ∀ (l : List (Nat × Value)) (e : Env) (k : Env → Prop), putsK l e k = k (e.puts l) := by
  intro l
  induction l with
  | nil => intro e k; rfl
  | cons p l ih =>
    obtain ⟨t, v⟩ := p
    intro e k
    simp only [putsK, Env.puts, force_eq, ih]

theorem LoopH.mk {B : Env → H → (Env → H → Prop) → Prop} {mods : List Nat} {e : Env} {h : H} {σ : Type} (new : σ → List (Nat × Value)) (I : σ → H → Prop) (μ : σ → H → Nat) (s0 : σ)
    (he : Ents e (new s0)) (hI : I s0 h) (hb : ∀ s h' g, I s h' → dropK mods g e fun e1 => putsK (new s) e1 fun e2 => B e2 h' fun e' h'' => ∃ s', Ents e' (new s') ∧ I s' h'' ∧ μ s' h'' < μ s h') : LoopH B mods e h := by
  unfold LoopH
  refine ⟨σ, new, I, μ, s0, he, hI, fun s h' g hs => ?_⟩
  have := hb s h' g hs
  rw [dropK_eq, putsK_eq] at this
  exact this

/-! ### Slices that a call makes and grows -/
/-- A slice of n elements of sz cells, that lies in a block of its own from lo on (or is nil). -/
def OwnS (h : H) (lo : Nat) (base : Option Addr) (n c sz : Nat) (vs : List Value) : Prop :=
  vs.length = n * sz ∧ ((base = none ∧ n = 0 ∧ c = 0) ∨ ∃ b rest, base = some ⟨b, 0, none⟩ ∧ lo ≤ b ∧ n ≤ c ∧ Blk h b (vs ++ rest) ∧ (vs ++ rest).length = c * sz)
theorem OwnS.nil (h : H) (lo sz : Nat) : OwnS h lo none 0 0 sz [] := ⟨by simp, .inl ⟨rfl, rfl, rfl⟩⟩
theorem OwnS.keep {M : List Nat} {h h' : H} {lo : Nat} {base : Option Addr} {n c sz : Nat} {vs : List Value} (ho : Only M h h') (hn : ∀ b ∈ blks base, b ∉ M) (hs : OwnS h lo base n c sz vs) : OwnS h' lo base n c sz vs := by
  obtain ⟨hl, hs⟩ := hs
  refine ⟨hl, hs.imp id ?_⟩
  rintro ⟨b, rest, rfl, h1, h2, h3, h4⟩
  exact ⟨b, rest, rfl, h1, h2, h3.keep ho (hn b (by simp [blks])), h4⟩
theorem OwnS.sims {h h' : H} {lo : Nat} {base : Option Addr} {n c sz : Nat} {vs : List Value} (ho : Sims h h') (hs : OwnS h lo base n c sz vs) : OwnS h' lo base n c sz vs := by
  obtain ⟨hl, hs⟩ := hs
  refine ⟨hl, hs.imp id ?_⟩
  rintro ⟨b, rest, rfl, h1, h2, h3, h4⟩
  exact ⟨b, rest, rfl, h1, h2, h3.sims ho, h4⟩
theorem OwnS.keep0 {h h' : H} {lo : Nat} {base : Option Addr} {n c sz : Nat} {vs : List Value} (ho : Only [] h h') (hs : OwnS h lo base n c sz vs) : OwnS h' lo base n c sz vs := hs.keep ho fun _ _ h => by cases h
theorem OwnS.lo {h : H} {lo : Nat} {base : Option Addr} {n c sz : Nat} {vs : List Value} (hs : OwnS h lo base n c sz vs) : ∀ b ∈ blks base, lo ≤ b := by
  obtain ⟨_, hs⟩ := hs
  rcases hs with ⟨rfl, _⟩ | ⟨b, rest, rfl, h1, _⟩
  · intro b hb; cases hb
  · intro b hb; simp [blks] at hb; subst hb; exact h1
theorem OwnS.lt {h : H} {lo : Nat} {base : Option Addr} {n c sz : Nat} {vs : List Value} (hs : OwnS h lo base n c sz vs) : ∀ b ∈ blks base, b < h.size := by
  obtain ⟨_, hs⟩ := hs
  rcases hs with ⟨rfl, _⟩ | ⟨b, rest, rfl, h1, _, h3, _⟩
  · intro b hb; cases hb
  · intro b hb; simp [blks] at hb; subst hb; exact h3.lt
theorem own_dis {h : H} {lo : Nat} {base : Option Addr} {n c sz : Nat} {vs : List Value} (hs : OwnS h lo base n c sz vs) {x : Nat} (hx : h.size ≤ x) : x ∉ blks base := fun hm => by have := hs.lt x hm; omega
theorem OwnS.rds {h : H} {lo : Nat} {base : Option Addr} {n c sz : Nat} {vs : List Value} (hs : OwnS h lo base n c sz vs) : Rds h base vs := by
  obtain ⟨hl, hs⟩ := hs
  rcases hs with ⟨rfl, rfl, rfl⟩ | ⟨b, rest, rfl, _, _, h3, _⟩
  · show vs = []
    simpa using hl
  · exact (h3.row).take
theorem OwnS.nums {q : IntKind} {h : H} {lo : Nat} {base : Option Addr} {n c : Nat} {xs : List Int} (hs : OwnS h lo base n c 1 (xs.map (.int q))) : Nums q h base n xs :=
  ⟨by simpa using hs.1, hs.rds⟩
theorem OwnS.le {h : H} {lo : Nat} {base : Option Addr} {n c sz : Nat} {vs : List Value} (hs : OwnS h lo base n c sz vs) : n ≤ c := by
  obtain ⟨_, hs⟩ := hs
  rcases hs with ⟨_, rfl, rfl⟩ | ⟨b, rest, _, _, h2, _, _⟩
  · exact Nat.le_refl _
  · exact h2
theorem OwnS.anylo {h : H} {lo lo' : Nat} {base : Option Addr} {n c sz : Nat} {vs : List Value} (hs : OwnS h lo base n c sz vs) (hl : ∀ b ∈ blks base, lo' ≤ b) : OwnS h lo' base n c sz vs := by
  obtain ⟨h0, hs⟩ := hs
  refine ⟨h0, hs.imp id ?_⟩
  rintro ⟨b, rest, rfl, h1, h2⟩
  exact ⟨b, rest, rfl, hl b (by simp [blks]), h2⟩

theorem OwnS.blk {h : H} {lo : Nat} {base : Option Addr} {n c sz i : Nat} {vs : List Value} (hs : OwnS h lo base n c sz vs) (hi : i < n) :
    ∃ b rest, base = some ⟨b, 0, none⟩ ∧ lo ≤ b ∧ n ≤ c ∧ Blk h b (vs ++ rest) ∧ (vs ++ rest).length = c * sz := by
  rcases hs.2 with ⟨_, rfl, _⟩ | h
  · omega
  · exact h
/-- A store into a slice of numbers of the call's own. -/
theorem OwnS.put {q : IntKind} {h : H} {lo : Nat} {base : Option Addr} {n c i : Nat} {xs : List Int} (hs : OwnS h lo base n c 1 (xs.map (.int q))) (hi : i < n) :
    ∃ b, base = some ⟨b, 0, none⟩ ∧ hcell h ⟨b, i, none⟩ = some (.int q (xs.getD i 0)) ∧ ∀ (x : Int) (k : H → Prop), (∀ h', OwnS h' lo base n c 1 ((xs.set i x).map (.int q)) → Only [b] h h' → h'.size = h.size → k h') → St h ⟨b, i, none⟩ (.int q x) k := by
  obtain ⟨b, rest, rfl, h1, h2, h3, h4⟩ := hs.blk hi
  have hl : xs.length = n := by simpa using hs.1
  refine ⟨b, rfl, ?_, fun x k hk => ?_⟩
  · refine h3.cell ?_
    rw [List.getElem?_append_left (by simp; omega), List.getElem?_map, List.getD_eq_getElem?_getD, List.getElem?_eq_getElem (by omega)]
    rfl
  · refine St.blk h3 (by simp; omega) rfl fun h' hb ho hsz => ?_
    refine hk h' ⟨by simpa using hl, .inr ⟨b, rest, rfl, h1, h2, ?_, by simpa using h4⟩⟩ ho hsz
    rw [List.set_append_left _ _ (by simp; omega), ← List.map_set] at hb
    exact hb

theorem growBy_le (need : Nat) : ∀ (r c : Nat), c < 2 * need + 200 → Builtin.growBy need r c < 2 * need + 200 := by
  intro r
  induction r with
  | zero => intro c hc; exact hc
  | succ r ih =>
    intro c hc
    simp only [Builtin.growBy]
    split
    · exact hc
    · exact ih _ (by omega)
theorem nextcap_le {need c : Nat} (h : c < need) : Builtin.nextslicecap need c < 2 * need + 200 := by
  unfold Builtin.nextslicecap
  split
  · omega
  · split
    · omega
    · exact growBy_le need 4 c (by omega)

def putAt : List Value → Nat → List Value → List Value
  | [], _, cs => cs
  | v :: r, i, cs => putAt r (i + 1) (cs.set i v)
theorem stN_blk {b : Nat} {k : H → Prop} : ∀ (new : List Value) (h : H) (off i : Nat) (cs : List Value), Blk h b cs → off + i + new.length ≤ cs.length → (∀ v ∈ new, v.oneCell' = true) →
    (∀ h', Blk h' b (putAt new (off + i) cs) → Only [b] h h' → h'.size = h.size → k h') → stN h ⟨b, off, none⟩ i new k := by
  intro new
  induction new with
  | nil => intro h off i cs hb _ _ hk; exact hk h hb (Only.refl _ _) rfl
  | cons v r ih =>
    intro h off i cs hb hl hv hk
    simp only [List.length_cons] at hl
    simp only [stN]
    rw [add_eq (a := ⟨b, off, none⟩) rfl]
    refine St.blk hb (by simp only []; omega) (hv v (by simp)) fun h1 hb1 ho1 hs1 => ?_
    refine ih h1 off (i + 1) _ hb1 (by simp; omega) (fun u hu => hv u (by simp [hu])) fun h2 hb2 ho2 hs2 => ?_
    exact hk h2 hb2 (ho1.trans ho2) (hs2.trans hs1)
theorem putAt_mid : ∀ (l : List Value) (a b : List Value), l.length ≤ b.length → putAt l a.length (a ++ b) = a ++ l ++ b.drop l.length := by
  intro l
  induction l with
  | nil => intro a b _; simp [putAt]
  | cons v r ih =>
    intro a b hb
    cases b with
    | nil => simp at hb
    | cons c b =>
      simp only [putAt]
      have h1 : (a ++ c :: b).set a.length v = (a ++ [v]) ++ b := by simp
      rw [h1]
      have := ih (a ++ [v]) b (by simpa using hb)
      simp only [List.length_append, List.length_cons, List.length_nil] at this
      rw [this]
      simp

theorem zeroCells_length (z : List Value) (m : Nat) : (Builtin.zeroCells z.toArray m).toList.length = m * z.length := by simp [Builtin.zeroCells]

theorem App.own {h : H} {T sz by' : Nat} {z : List Value} {lo : Nat} {base : Option Addr} {n c : Nat} {vs new : List Value} {b2 : Option Addr} {n2 : Nat} {k : Value → H → Prop}
    (ho : OwnS h lo base n c sz vs) (hn : Rds h b2 new) (hl : new.length = n2 * sz) (h1 : ∀ v ∈ new, v.oneCell' = true) (hb : by' ≠ 0) (hz : z.length = sz) (hs : (n + n2) * by' ≤ 2 ^ 46) (hby : by' ≤ 2 ^ 30) (hlo : lo ≤ h.size)
    (hk : ∀ h' base' c', OwnS h' lo base' (n + n2) c' sz (vs ++ new) → Only (blks base) h h' → (∀ b ∈ blks base', b ∈ blks base ∨ b = h.size) → k (.slice base' (n + n2) c') h') :
    App h T sz by' z base n c b2 n2 k := by
  unfold App
  have hvl := ho.1
  refine ⟨new, hn.readsAs hl, fun hle => ?_, fun hlt => ?_⟩
  · rcases ho.2 with ⟨rfl, rfl, rfl⟩ | ⟨b, rest, rfl, hb1, hb2, hblk, hlen⟩
    · have hn2 : n2 = 0 := by omega
      subst hn2
      have : new = [] := by simpa using hl
      subst this
      simp only
      exact hk h none 0 (by simpa using ho) (Only.refl _ _) (by simp [blks])
    · simp only
      rw [add_eq (a := ⟨b, 0, none⟩) rfl]
      simp only [List.length_append] at hlen
      have hroom : new.length ≤ rest.length := by
        have : (n + n2) * sz ≤ c * sz := Nat.mul_le_mul_right sz hle
        rw [Nat.add_mul] at this
        omega
      refine stN_blk new h (0 + n * sz) 0 (vs ++ rest) hblk (by simp only [List.length_append]; omega) h1 fun h' hb' ho' hs' => ?_
      rw [show 0 + n * sz + 0 = vs.length from by omega, putAt_mid new vs rest hroom] at hb'
      refine hk h' _ c ⟨by simp [hvl, hl, Nat.add_mul], .inr ⟨b, rest.drop new.length, rfl, hb1, hle, hb', by simp; omega⟩⟩ ho' (by simp [blks])
  · refine ⟨hb, ?_, vs, ho.rds.readsAs hvl, fun nc hnc => ?_⟩
    · have h3 := nextcap_le hlt
      have h4 : Builtin.nextslicecap (n + n2) c * by' ≤ (2 * (n + n2) + 200) * by' := Nat.mul_le_mul_right _ (by omega)
      have h5 : (2 * (n + n2) + 200) * by' = 2 * ((n + n2) * by') + 200 * by' := by rw [Nat.add_mul, Nat.mul_assoc]
      omega
    · have hpush : Only [] h (h.push (.cells (vs.toArray ++ new.toArray ++ Builtin.zeroCells z.toArray (nc - (n + n2))) T)) := ⟨by simp, fun b hb _ => by rw [Array.getElem?_push, if_neg (by omega)]⟩
      refine hk _ _ nc ⟨by simp [hvl, hl, Nat.add_mul], .inr ⟨h.size, (Builtin.zeroCells z.toArray (nc - (n + n2))).toList, rfl, hlo, hnc, .mk (T := T) ?_, ?_⟩⟩ hpush.nil (by simp [blks])
      · simp
      · have := zeroCells_length z (nc - (n + n2))
        simp only [List.length_append, this, hvl, hl, hz]
        rw [← Nat.add_mul, ← Nat.add_mul]
        congr 1
        omega

/-- 'append(out, v)': the one element's block, and the append. -/
theorem New.app {h : H} {T T' sz by' : Nat} {z : List Value} {lo : Nat} {base : Option Addr} {n c : Nat} {vs cs : List Value} {k : Nat → Value → H → Prop}
    (ho : OwnS h lo base n c sz vs) (hl : cs.length = sz) (h1 : ∀ v ∈ cs, v.oneCell' = true) (hb : by' ≠ 0) (hz : z.length = sz) (hs : (n + 1) * by' ≤ 2 ^ 46) (hby : by' ≤ 2 ^ 30) (hlo : lo ≤ h.size)
    (hk : ∀ r h' base' c', OwnS h' lo base' (n + 1) c' sz (vs ++ cs) → Only (blks base) h h' → (∀ b ∈ blks base', b ∈ blks base ∨ h.size ≤ b) → k r (.slice base' (n + 1) c') h') :
    New h (.cells cs.toArray T) fun r h' => App h' T' sz by' z base n c (some ⟨r, 0, none⟩) 1 (k r) := by
  refine New.blk fun h1' hs1 hblk ho1 => ?_
  refine App.own (ho.keep0 ho1) hblk.row (by omega) h1 hb hz hs hby (by omega) fun h2 base' c' hown ho2 hbl => ?_
  refine hk _ h2 base' c' hown (ho1.nil.trans ho2) fun b hb => (hbl b hb).imp id (by omega)

/-- 'make([]T, n)' of elements of one cell. -/
theorem Mk.own {h : H} {T by' : Nat} {z : Value} {n : Int} {k : Value → H → Prop} (h0 : 0 ≤ n) (h1 : n ≤ 2 ^ 48) (h2 : by' * n ≤ 2 ^ 48)
    (hk : ∀ h', OwnS h' h.size (some ⟨h.size, 0, none⟩) n.toNat n.toNat 1 (List.replicate n.toNat z) → Only [] h h' → h'.size = h.size + 1 → k (.slice (some ⟨h.size, 0, none⟩) n.toNat n.toNat) h') : Mk h T 1 by' [z] n n k := by
  unfold Mk
  refine ⟨h0, Int.le_refl _, h1, h2, ?_⟩
  have hz : Builtin.zeroCells [z].toArray n.toNat = (List.replicate n.toNat z).toArray := by
    apply Array.ext'
    simp only [Builtin.zeroCells, List.size_toArray, List.length_cons, List.length_nil, Nat.zero_add, Nat.mul_one, Array.toList_map]
    apply List.ext_getElem
    · simp
    · intro i h1 h2
      simp [Nat.mod_one]
  rw [hz]
  refine hk _ ⟨by simp, .inr ⟨h.size, [], rfl, Nat.le_refl _, Nat.le_refl _, .mk (T := T) (by simp), by simp⟩⟩ ⟨by simp, fun b hb _ => by rw [Array.getElem?_push, if_neg (by omega)]⟩ (by simp)

/-- 'make([]T, n)' of elements of sz cells. -/
theorem Mk.ownN {h : H} {T sz by' : Nat} {z : List Value} {n : Int} {k : Value → H → Prop} (h0 : 0 ≤ n) (h1 : n ≤ 2 ^ 48) (h2 : by' * n ≤ 2 ^ 48) (hz : z.length = sz)
    (hk : ∀ h', OwnS h' h.size (some ⟨h.size, 0, none⟩) n.toNat n.toNat sz (List.replicate n.toNat z).flatten → Only [] h h' → h'.size = h.size + 1 → k (.slice (some ⟨h.size, 0, none⟩) n.toNat n.toNat) h') : Mk h T sz by' z n n k := by
  unfold Mk
  refine ⟨h0, Int.le_refl _, h1, h2, ?_⟩
  have hzc : Builtin.zeroCells z.toArray n.toNat = ((List.replicate n.toNat z).flatten).toArray := by
    apply Array.ext'
    simp only [Builtin.zeroCells, List.size_toArray, Array.toList_map]
    generalize n.toNat = m
    apply List.ext_getElem?
    intro i
    by_cases hzl : z.length = 0
    · have : z = [] := List.eq_nil_of_length_eq_zero hzl
      subst this
      simp
    have hfl : ∀ m : Nat, (List.replicate m z).flatten.length = m * z.length := fun m => by simp
    by_cases hi : i < m * z.length
    · have hq : i / z.length < m := Nat.div_lt_of_lt_mul (by rw [Nat.mul_comm]; exact hi)
      have h3 : (List.replicate m z).flatten[i]? = z[i % z.length]? := by
        clear hk h1 h2 h0
        have key : ∀ (m i : Nat), i < m * z.length → (List.replicate m z).flatten[i]? = z[i % z.length]? := by
          intro m
          induction m with
          | zero => intro i hi; omega
          | succ m ih =>
            intro i hi
            rw [List.replicate_succ, List.flatten_cons]
            by_cases hlt : i < z.length
            · rw [List.getElem?_append_left hlt, Nat.mod_eq_of_lt hlt]
            · rw [List.getElem?_append_right (by omega), ih _ (by rw [Nat.succ_mul] at hi; omega)]
              congr 1
              rw [Nat.mod_eq_sub_mod (a := i) (by omega)]
        exact key m i hi
      rw [h3]
      simp [hi]
      rw [List.getElem?_eq_getElem (Nat.mod_lt _ (by omega))]
      rfl
    · rw [List.getElem?_eq_none (by simp; omega), List.getElem?_eq_none (by rw [hfl]; omega)]
  rw [hzc]
  refine hk _ ⟨by simp [hz], .inr ⟨h.size, [], rfl, Nat.le_refl _, Nat.le_refl _, .mk (T := T) (by simp), by simp [hz]⟩⟩ ⟨by simp, fun b hb _ => by rw [Array.getElem?_push, if_neg (by omega)]⟩ (by simp)
/-- A whole block is written anew. -/
theorem StN.blk {h : H} {b : Nat} {cs new : List Value} {k : H → Prop} (hb : Blk h b cs) (hl : new.length = cs.length) (hv : ∀ v ∈ new, v.oneCell' = true)
    (hk : ∀ h', Blk h' b new → Only [b] h h' → h'.size = h.size → k h') : StN h ⟨b, 0, none⟩ new k := by
  unfold StN
  refine stN_blk new h 0 0 cs hb (by omega) hv fun h' hb' ho hs => ?_
  have := putAt_mid new [] cs (by omega)
  simp only [List.length_nil, List.nil_append] at this
  rw [show 0 + 0 = 0 from rfl, this, List.drop_of_length_le (by omega), List.append_nil] at hb'
  exact hk h' hb' ho hs
end Go.Proofs.YtiabgojnljfmhaaGreat.Ov
