/-
  WHAT sync.Mutex, sync/atomic's Bool AND Int64 DO. No condition beyond each statement's own.
-/
import Derived.Test.YtiabgojnljfmhaaGreatS
import Derived.Test.YtiabgojnljfmhaaGreatR2
import Derived.Test.YtiabgojnljfmhaaGreatQ1
namespace Go.Proofs.YtiabgojnljfmhaaGreat.Ov.W

theorem Ix.arr {b o n sz j : Nat} {i : Int} {k : Addr → Prop} (h0 : 0 ≤ i) (h1 : i < n) (hj : o + i.toNat * sz = j) (hk : k ⟨b, j, none⟩) : Ix (some ⟨b, o, none⟩) n i sz k :=
  Ix.mk h0 h1 rfl (by rw [add_eq rfl, hj]; exact hk)

theorem x_disable {h : H} {k : Value → H → Prop} (hk : k (.tuple #[]) h) : FX Pg 203 #[] h k := FX.mark0 Go.Proofs.Tryz.func203 (by kernel_rfl) (by kernel_rfl) (by kernel_rfl) .disable (by kernel_rfl) hk
theorem x_enable {h : H} {k : Value → H → Prop} (hk : k (.tuple #[]) h) : FX Pg 205 #[] h k := FX.mark0 Go.Proofs.Tryz.func205 (by kernel_rfl) (by kernel_rfl) (by kernel_rfl) .enable (by kernel_rfl) hk
theorem x_acquire {h : H} {a : Addr} {k : Value → H → Prop} (hk : k (.tuple #[]) h) : FX Pg 206 #[.pointer (some a)] h k := FX.marked Go.Proofs.Tryz.func206 (by kernel_rfl) (by kernel_rfl) (by kernel_rfl) .acquire (by kernel_rfl) hk
theorem x_merge {h : H} {a : Addr} {k : Value → H → Prop} (hk : k (.tuple #[]) h) : FX Pg 208 #[.pointer (some a)] h k := FX.marked Go.Proofs.Tryz.func208 (by kernel_rfl) (by kernel_rfl) (by kernel_rfl) .releaseMerge (by kernel_rfl) hk
theorem x_cas {h : H} {b i : Nat} {cs : List Value} {x y : Int} {k : Value → H → Prop} (hb : Blk h b cs) (hi : cs[i]? = some (.int .i32 x)) (hk : ∀ h', Blk h' b (cs.set i (.int .i32 y)) → Only [b] h h' → h'.size = h.size → k (.bool true) h') : FX Pg 204 #[.pointer (some ⟨b, i, none⟩), .int .i32 x, .int .i32 y] h k :=
  FX.cas Go.Proofs.Tryz.func204 (by kernel_rfl) (by kernel_rfl) (by kernel_rfl) .i32 (by kernel_rfl) (hb.cell hi) (hb.free (List.getElem?_eq_some_iff.1 hi).1) (set_blk (k := fun h' => k (.bool true) h') hb hk)
theorem x_add32 {h : H} {b i : Nat} {cs : List Value} {x y : Int} {k : Value → H → Prop} (hb : Blk h b cs) (hi : cs[i]? = some (.int .i32 x)) (hk : ∀ h' z, z = IntKind.i32.wrap (x + y) → Blk h' b (cs.set i (.int .i32 z)) → Only [b] h h' → h'.size = h.size → k (.int .i32 z) h') : FX Pg 209 #[.pointer (some ⟨b, i, none⟩), .int .i32 y] h k :=
  FX.add Go.Proofs.Tryz.func209 (by kernel_rfl) (by kernel_rfl) (by kernel_rfl) .i32 (by kernel_rfl) (hb.cell hi) (hb.free (List.getElem?_eq_some_iff.1 hi).1) (set_blk (k := fun h' => k (.int .i32 (IntKind.i32.wrap (x + y))) h') hb fun h' => hk h' _ rfl)
theorem x_add64 {h : H} {b i : Nat} {cs : List Value} {x y : Int} {k : Value → H → Prop} (hb : Blk h b cs) (hi : cs[i]? = some (.int .i64 x)) (hk : ∀ h' z, z = IntKind.i64.wrap (x + y) → Blk h' b (cs.set i (.int .i64 z)) → Only [b] h h' → h'.size = h.size → k (.int .i64 z) h') : FX Pg 106 #[.pointer (some ⟨b, i, none⟩), .int .i64 y] h k :=
  FX.add Go.Proofs.Tryz.func106 (by kernel_rfl) (by kernel_rfl) (by kernel_rfl) .i64 (by kernel_rfl) (hb.cell hi) (hb.free (List.getElem?_eq_some_iff.1 hi).1) (set_blk (k := fun h' => k (.int .i64 (IntKind.i64.wrap (x + y))) h') hb fun h' => hk h' _ rfl)
theorem x_load {h : H} {a : Addr} {x : Int} {k : Value → H → Prop} (hc : hcell h a = some (.int .u32 x)) (hk : k (.int .u32 x) h) : FX Pg 195 #[.pointer (some a)] h k :=
  FX.load Go.Proofs.Tryz.func195 (by kernel_rfl) (by kernel_rfl) (by kernel_rfl) .u32 (by kernel_rfl) hc hk
theorem x_store {h : H} {b i : Nat} {cs : List Value} {y : Int} {u : Value} {k : Value → H → Prop} (hb : Blk h b cs) (hi : cs[i]? = some u) (hk : ∀ h', Blk h' b (cs.set i (.int .u32 y)) → Only [b] h h' → h'.size = h.size → k (.tuple #[]) h') : FX Pg 201 #[.pointer (some ⟨b, i, none⟩), .int .u32 y] h k :=
  FX.store Go.Proofs.Tryz.func201 (by kernel_rfl) (by kernel_rfl) (by kernel_rfl) .u32 (by kernel_rfl) (hb.cell hi) (hb.free (List.getElem?_eq_some_iff.1 hi).1) (set_blk (k := fun h' => k (.tuple #[]) h') hb hk)

theorem ILock_spec (h : H) (b i : Nat) (cs : List Value) (hb : Blk h b cs) (hi : cs[i]? = some (.int .i32 0)) : Fn Pg 199 #[.pointer (some ⟨b, i, none⟩)] h fun v h' => v = .tuple #[] ∧ Blk h' b (cs.set i (.int .i32 1)) ∧ Only [b] h h' := by
  refine g199 (args := [_]) ?_
  refine Raw.fx rfl (x_disable ?_)
  have hl : i < cs.length := (List.getElem?_eq_some_iff.1 hi).1
  refine Raw.fx rfl (x_cas hb hi fun h' hb' ho' _ => ?_)
  refine Raw.fx rfl (x_enable ?_)
  refine Raw.cvup (by kernel_rfl) rfl (hb'.cell (by rw [List.getElem?_set_self hl])) ?_
  refine Raw.fx rfl (x_acquire ?_)
  exact ⟨rfl, hb', ho'⟩
theorem Lock_spec (h : H) (b i : Nat) (cs : List Value) (hb : Blk h b cs) (hi : cs[i]? = some (.int .i32 0)) : Fn Pg 196 #[.pointer (some ⟨b, i, none⟩)] h fun v h' => v = .tuple #[] ∧ Blk h' b (cs.set i (.int .i32 1)) ∧ Only [b] h h' := by
  refine g196 (args := [_]) ?_
  refine (ILock_spec h b i cs hb hi).use ?_
  rintro v h' ⟨rfl, h1⟩
  exact ⟨rfl, h1⟩
theorem IUnlock_spec (h : H) (b i : Nat) (cs : List Value) (hb : Blk h b cs) (hi : cs[i]? = some (.int .i32 1)) : Fn Pg 200 #[.pointer (some ⟨b, i, none⟩)] h fun v h' => v = .tuple #[] ∧ Blk h' b (cs.set i (.int .i32 0)) ∧ Only [b] h h' := by
  refine g200 (args := [_]) ?_
  refine Ld.blk hb hi ?_
  refine Raw.cvup (by kernel_rfl) rfl (hb.cell hi) ?_
  refine Raw.fx rfl (x_merge ?_)
  refine Raw.fx rfl (x_disable ?_)
  refine Raw.fx rfl (x_add32 hb hi fun h' z hz hb' ho' _ => ?_)
  have hz : z = 0 := hz
  subst hz
  refine CNe.f rfl ?_
  refine Raw.fx rfl (x_enable ?_)
  exact ⟨rfl, hb', ho'⟩
theorem Unlock_dF (h : H) (b i : Nat) (cs : List Value) (hb : Blk h b cs) (hi : cs[i]? = some (.int .i32 1)) : dF Pg s197 r197 [.pointer (some ⟨b, i, none⟩)] h fun v h' => v = .tuple #[] ∧ Blk h' b (cs.set i (.int .i32 0)) ∧ Only [b] h h' := by
  refine (IUnlock_spec h b i cs hb hi).use ?_
  rintro v h' ⟨rfl, h1⟩
  exact ⟨rfl, h1⟩
theorem Unlock_spec (h : H) (b i : Nat) (cs : List Value) (hb : Blk h b cs) (hi : cs[i]? = some (.int .i32 1)) : Fn Pg 197 #[.pointer (some ⟨b, i, none⟩)] h fun v h' => v = .tuple #[] ∧ Blk h' b (cs.set i (.int .i32 0)) ∧ Only [b] h h' :=
  g197 (args := [_]) (Unlock_dF h b i cs hb hi)
theorem Unlock_def (h : H) (b i : Nat) (cs : List Value) (hb : Blk h b cs) (hi : cs[i]? = some (.int .i32 1)) : FnD Pg 197 #[.pointer (some ⟨b, i, none⟩)] h fun v h' => v = .tuple #[] ∧ Blk h' b (cs.set i (.int .i32 0)) ∧ Only [b] h h' :=
  FnD.of (args := [_]) Go.Proofs.Tryz.func197 k197 (Unlock_dF h b i cs hb hi)
theorem BLoad_spec (h : H) (b i : Nat) (cs : List Value) (x : Int) (hb : Blk h b cs) (hi : cs[i]? = some (.int .u32 x)) : Fn Pg 188 #[.pointer (some ⟨b, i, none⟩)] h fun v h' => v = .bool (x != 0) ∧ h' = h := by
  refine g188 (args := [_]) ?_
  refine Raw.fx rfl (x_load (hb.cell hi) ?_)
  refine CNe.mk (fun hx => ?_) (fun hx => ?_)
  · exact ⟨by show Value.bool true = _; rw [show (x != 0) = true from by simp [hx]], rfl⟩
  · exact ⟨by show Value.bool false = _; rw [show (x != 0) = false from by simp [hx]], rfl⟩
theorem b32_spec (h : H) (x : Bool) : Fn Pg 202 #[.bool x] h fun v h' => v = .int .u32 (if x then 1 else 0) ∧ h' = h := by
  refine g202 (args := [_]) ?_
  cases x
  · exact ⟨rfl, rfl⟩
  · exact ⟨rfl, rfl⟩
theorem BStore_def (h : H) (b i : Nat) (cs : List Value) (u : Value) (hb : Blk h b cs) (hi : cs[i]? = some u) : FnD Pg 198 #[.pointer (some ⟨b, i, none⟩), .bool true] h fun v h' => v = .tuple #[] ∧ Blk h' b (cs.set i (.int .u32 1)) ∧ Only [b] h h' := by
  refine FnD.of (args := [_, _]) Go.Proofs.Tryz.func198 k198 ?_
  refine (b32_spec h true).use ?_
  rintro v h1 ⟨rfl, rfl⟩
  refine Raw.fx rfl (x_store hb hi fun h' hb' ho' _ => ?_)
  exact ⟨rfl, hb', ho'⟩
theorem IAdd_spec (h : H) (b i : Nat) (cs : List Value) (x y : Int) (hb : Blk h b cs) (hi : cs[i]? = some (.int .i64 x)) : Fn Pg 70 #[.pointer (some ⟨b, i, none⟩), .int .i64 y] h fun v h' => (∃ z, v = .int .i64 z ∧ z = IntKind.i64.wrap (x + y) ∧ Blk h' b (cs.set i (.int .i64 z))) ∧ Only [b] h h' := by
  refine g70 (args := [_, _]) ?_
  refine Raw.fx rfl (x_add64 hb hi fun h' z hz hb' ho' _ => ?_)
  exact ⟨⟨z, rfl, hz, hb'⟩, ho'⟩

end Go.Proofs.YtiabgojnljfmhaaGreat.Ov.W
