/-
  WHAT IS SHOWN OF THE SMALL TEXT HOLDS OF THE CODE'S RUN: operation by operation. No condition: every statement is for every program.
-/
import Derived.Test.YtiabgojnljfmhaaGreatC
namespace Go.Proofs.YtiabgojnljfmhaaGreat.Ov
section
variable {st : Bool} {P : Program} {e : Env} {h : H} {k : Value → H → Prop}

theorem raw_out {op : Op} {ty : TypeId} (hr : vO P e h k (.raw op ty)) : RawO false P (ρ e) op ty h k := by
  simp only [vO] at hr
  unfold Raw at hr
  exact hr

theorem nonstill {op : Op} {ty : TypeId} {s : SO} (hst : st = true → s.still = true) (hs : s.still = false) (hr : RawO false P (ρ e) op ty h k) : RawO st P (ρ e) op ty h k := by
  cases st with
  | false => exact hr
  | true => rw [hst rfl] at hs; cases hs

theorem two_out {v u : Value} {p : IntKind → Int → IntKind → Int → Prop}
    (hv : match v, u with
      | .int q a, .int q' b => p q a q' b
      | _, _ => False) : ∃ q a q' b, v = .int q a ∧ u = .int q' b ∧ p q a q' b := by
  split at hv
  · exact ⟨_, _, _, _, rfl, rfl, hv⟩
  · exact hv.elim
theorem ptr_out {v : Value} {p : Addr → Prop}
    (hv : match v with
      | .pointer (some a) => p a
      | _ => False) : ∃ a, v = .pointer (some a) ∧ p a := by
  split at hv
  · exact ⟨_, rfl, hv⟩
  · exact hv.elim

theorem intArith_add (q : IntKind) (a b : Int) : Op.intArith .add q a b = pure (.int q (q.wrap (a + b))) := rfl

theorem eqGuard_int {op : BinOp} {t : TypeId} {x y : Operand} {q q' : IntKind} {a b : Int} {kk : Unit → H → Prop} (hk : kk () h) :
    Sm st P (eqGuard op t x y (.int q a) (.int q' b)) h kk := by
  cases op <;> exact Sm.pure hk

theorem bin_int {op : BinOp} {t yt : TypeId} {x y : Operand} {q q' : IntKind} {a b : Int} {ty : TypeId} (ex : ρ e x = .int q a) (ey : ρ e y = .int q' b)
    (hs : Sm st P (binOp op t (.int q a) (.int q' b)) h k) : RawO st P (ρ e) (.binOp op t x y yt) ty h k := by
  unfold RawO
  simp only [execOp, ex, ey]
  exact val_of (Sm.bind (eqGuard_int hs))

theorem ar_sound {op : BinOp} {t yt ty : TypeId} {x y : Operand} (hop : op = .add ∨ op = .sub ∨ op = .mul) (hv : vO P e h k (.ar op (opX x) (opX y))) :
    RawO st P (ρ e) (.binOp op t x y yt) ty h k := by
  simp only [vO, ev_opX] at hv
  obtain ⟨q, a, q', b, ex, ey, hv⟩ := two_out hv
  have hw := kEq_out hv
  clear hv
  obtain ⟨rfl, hv⟩ := hw
  refine bin_int ex ey ?_
  rcases hop with rfl | rfl | rfl <;> simp only [] at hv <;> unfold Ar at hv <;> simp only [binOp, ne_eq, not_true_eq_false, if_false] <;> exact Sm.pure hv

theorem bt_sound {op : BinOp} {t yt ty : TypeId} {x y : Operand} (hop : op = .and ∨ op = .or ∨ op = .xor ∨ op = .andNot) (hv : vO P e h k (.bt op (opX x) (opX y))) :
    RawO st P (ρ e) (.binOp op t x y yt) ty h k := by
  simp only [vO, ev_opX] at hv
  obtain ⟨q, a, q', b, ex, ey, hv⟩ := two_out hv
  have hw := kEq_out hv
  clear hv
  obtain ⟨rfl, hv⟩ := hw
  refine bin_int ex ey ?_
  rcases hop with rfl | rfl | rfl | rfl <;> simp only [] at hv <;> unfold Bits bitsV at hv <;> simp only [binOp, ne_eq, not_true_eq_false, if_false] <;> exact Sm.pure hv

theorem dv_sound {op : BinOp} {t yt ty : TypeId} {x y : Operand} (hop : op = .quo ∨ op = .rem) (hv : vO P e h k (.dv op (opX x) (opX y))) :
    RawO st P (ρ e) (.binOp op t x y yt) ty h k := by
  simp only [vO, ev_opX] at hv
  obtain ⟨q, a, q', b, ex, ey, hv⟩ := two_out hv
  have hw := kEq_out hv
  clear hv
  obtain ⟨rfl, hv⟩ := hw
  refine bin_int ex ey ?_
  rcases hop with rfl | rfl
  · simp only [] at hv
    unfold Quo at hv
    simp only [binOp, ne_eq, not_true_eq_false, if_false, Op.intDiv, if_neg hv.1]
    exact Sm.pure hv.2
  · simp only [] at hv
    unfold Rem at hv
    simp only [binOp, ne_eq, not_true_eq_false, if_false, Op.intDiv, if_neg hv.1]
    exact Sm.pure hv.2

theorem sh_sound {op : BinOp} {t yt ty : TypeId} {x y : Operand} (hop : op = .shl ∨ op = .shr) (hv : vO P e h k (.sh op (opX x) (opX y))) :
    RawO st P (ρ e) (.binOp op t x y yt) ty h k := by
  simp only [vO, ev_opX] at hv
  obtain ⟨q, a, q', b, ex, ey, hv⟩ := two_out hv
  refine bin_int ex ey ?_
  rcases hop with rfl | rfl
  · simp only [] at hv
    unfold Shl at hv
    have hn : ¬ b < 0 := by omega
    simp only [binOp, Op.shift, if_neg hn]
    exact Sm.pure hv.2
  · simp only [] at hv
    unfold Shr at hv
    have hn : ¬ b < 0 := by omega
    simp only [binOp, Op.shift, if_neg hn]
    exact Sm.pure hv.2

theorem cm_sound {op : BinOp} {t yt ty : TypeId} {x y : Operand} (hop : op = .lss ∨ op = .leq ∨ op = .gtr ∨ op = .geq ∨ op = .eql ∨ op = .neq) (hv : vO P e h k (.cm op (opX x) (opX y))) :
    RawO st P (ρ e) (.binOp op t x y yt) ty h k := by
  simp only [vO, ev_opX] at hv
  obtain ⟨q, a, q', b, ex, ey, hv⟩ := two_out hv
  have hw := kEq_out hv
  clear hv
  obtain ⟨rfl, hv⟩ := hw
  refine bin_int ex ey ?_
  rcases hop with rfl | rfl | rfl | rfl | rfl | rfl <;> simp only [] at hv <;> (first | unfold CLt at hv | unfold CLe at hv | unfold CEq at hv | unfold CNe at hv) <;>
    simp only [binOp, ne_eq, not_true_eq_false, if_false, Op.intCmp] <;> exact Sm.pure hv

theorem bin_sound {op : BinOp} {t yt ty : TypeId} {x y : Operand} {s : SO} (hst : st = true → s.still = true) (hc : compBin P op t x y yt ty = some s) (hv : vO P e h k s) :
    RawO st P (ρ e) (.binOp op t x y yt) ty h k := by
  unfold compBin at hc
  split at hc <;> injection hc with hc <;> subst hc
  all_goals first
    | exact ar_sound (by simp) hv
    | exact bt_sound (by simp) hv
    | exact dv_sound (by simp) hv
    | exact sh_sound (by simp) hv
    | exact cm_sound (by simp) hv
    | exact nonstill hst rfl (raw_out hv)

theorem ld_sound {t ty : TypeId} {x : Operand} (hb : isAggB P t = some false) (hv : vO P e h k (.ld (opX x))) : RawO st P (ρ e) (.load t x) ty h k := by
  simp only [vO, ev_opX] at hv
  obtain ⟨a, ex, hv⟩ := ptr_out hv
  unfold RawO
  simp only [execOp, ex]
  exact val_of (Sm.bind (Sm.sureAddr (Sm.loadVar hb hv)))
theorem ldn_sound {t ty : TypeId} {x : Operand} {i : TypeInfo} (hb : isAggB P t = some true) (hi : P.info? t = some i) (hv : vO P e h k (.ldn (opX x) i.size)) : RawO st P (ρ e) (.load t x) ty h k := by
  simp only [vO, ev_opX] at hv
  obtain ⟨a, ex, hv⟩ := ptr_out hv
  unfold RawO
  simp only [execOp, ex]
  exact val_of (Sm.bind (Sm.sureAddr (Sm.loadVarN hb hi hv)))

theorem st_sound {t ty : TypeId} {x v : Operand} {i : TypeInfo} (hi : P.info? t = some i) (h1 : i.size = 1) (hv : vO P e h k (.st (opX x) (opX v))) : RawO false P (ρ e) (.store t x v) ty h k := by
  simp only [vO, ev_opX, force_eq] at hv
  obtain ⟨a, ex, hv⟩ := ptr_out hv
  unfold RawO
  simp only [execOp, ex]
  have ho : (ρ e v).oneCell' = true := by unfold St at hv; exact hv.1
  have hcs : (ρ e v).cells = #[ρ e v] := by
    generalize ρ e v = u at ho
    cases u <;> first | rfl | (simp [Value.oneCell'] at ho)
  refine unit_of (Sm.bind (Sm.sureAddr (Sm.storeVar (kk := fun h' => k undef h') hi (by rw [hcs, h1]; rfl) ?_)))
  rw [hcs]
  show St h (a.add 0) (ρ e v) fun h' => k undef h'
  exact hv
theorem stn_sound {t ty : TypeId} {x v : Operand} {i : TypeInfo} (hi : P.info? t = some i) (hv : vO P e h k (.stn (opX x) (opX v) i.size)) : RawO false P (ρ e) (.store t x v) ty h k := by
  simp only [vO, ev_opX] at hv
  split at hv
  · rename_i a cs ex ev
    unfold RawO
    simp only [execOp, ex, ev]
    unfold StN at hv
    refine unit_of (Sm.bind (Sm.sureAddr (Sm.storeVar (kk := fun h' => k undef h') hi (by simpa [Value.cells] using hv.1) ?_)))
    exact hv.2
  · exact hv.elim

theorem nil_sound {ty : TypeId} {x : Operand} (hv : vO P e h k (.nil (opX x))) : RawO st P (ρ e) (.nilCheck x) ty h k := by
  simp only [vO, ev_opX] at hv
  obtain ⟨a, ex, hv⟩ := ptr_out hv
  unfold RawO
  simp only [execOp, ex]
  exact Sm.pure hv

theorem fieldPlace_sound {a : Addr} {f : Field} {i : TypeInfo} {kk : Addr → H → Prop} (hi : P.info? f.type = some i) (h0 : i.size ≠ 0) (hk : kk (a.add f.offset) h) :
    Sm st P (fieldPlace a f) h kk := by
  unfold fieldPlace
  refine Sm.bind (Sm.sizeOf hi ?_)
  rw [if_neg h0]
  exact Sm.pure hk

theorem fld_sound {s ty : TypeId} {x : Operand} {f : Nat} {fs : Array Field} {fld : Field} {i : TypeInfo} (hu : P.underlying s = some (.struct fs)) (hf : nth fs.toList f = some fld)
    (hi : P.info? fld.type = some i) (h0 : i.size ≠ 0) (hv : vO P e h k (.fld (opX x) fld.offset)) : RawO st P (ρ e) (.fieldAddr s x f) ty h k := by
  simp only [vO, ev_opX] at hv
  obtain ⟨a, ex, hv⟩ := ptr_out hv
  unfold RawO
  simp only [execOp, ex]
  refine val_of ?_
  unfold Instr.fieldAt
  refine Sm.bind (Sm.underlying hu ?_)
  simp only []
  have : fs[f]? = some fld := by rw [← hf, nth_eq]; simp
  rw [this]
  exact Sm.bind (Sm.sureAddr (Sm.bind (fieldPlace_sound hi h0 (Sm.pure hv))))

theorem nth_arr {α : Type} (a : Array α) (n : Nat) : nth a.toList n = a[n]? := by rw [nth_eq]; simp

theorem part_one {t : TypeId} {cs : Array Value} {off : Nat} {v : Value} (hb : isAggB P t = some false) (hc : cs[off]? = some v) (hk : k v h) : Sm st P (part t cs off) h k := by
  unfold part
  refine Sm.bind (Sm.isAgg hb ?_)
  simp only [hc]
  exact Sm.pure hk
theorem part_agg {t : TypeId} {cs : Array Value} {off : Nat} {i : TypeInfo} (hb : isAggB P t = some true) (hi : P.info? t = some i) (hk : k (.agg (cs.extract off (off + i.size))) h) : Sm st P (part t cs off) h k := by
  unfold part
  refine Sm.bind (Sm.isAgg hb ?_)
  exact Sm.bind (Sm.sizeOf hi (Sm.pure hk))

theorem agg_out {v : Value} {p : Array Value → Prop}
    (hv : match v with
      | .agg cs => p cs
      | _ => False) : ∃ a, v = .agg a ∧ p a := by
  split at hv
  · exact ⟨_, rfl, hv⟩
  · exact hv.elim

theorem fe_sound {t ty : TypeId} {x : Operand} {f : Nat} {fs : Array Field} {fld : Field} {i : TypeInfo} {b : Bool} (hu : P.underlying t = some (.struct fs)) (hf : nth fs.toList f = some fld)
    (hb : isAggB P fld.type = some b) (hi : P.info? fld.type = some i) (hv : vO P e h k (.fe (opX x) fld.offset (bif b then some i.size else none))) : RawO st P (ρ e) (.field t x f) ty h k := by
  simp only [vO, ev_opX] at hv
  obtain ⟨cs, ex, hv⟩ := agg_out hv
  unfold RawO
  simp only [execOp, ex]
  refine val_of ?_
  unfold Instr.field
  refine Sm.bind (Sm.underlying hu ?_)
  simp only []
  rw [show fs[f]? = some fld from by rw [← nth_arr]; exact hf]
  refine Sm.bind (Sm.pure ?_)
  cases b with
  | true =>
    refine part_agg hb hi ?_
    simp only [cond_true] at hv
    rw [show cs.extract fld.offset (fld.offset + i.size) = ((cs.toList.drop fld.offset).take i.size).toArray from by
      apply Array.ext'; simp [Array.toList_extract, List.extract_eq_take_drop]]
    exact hv
  | false =>
    simp only [cond_false] at hv
    split at hv
    · rename_i v hn
      rw [force_eq] at hv
      exact part_one hb (by rw [← nth_arr]; exact hn) hv
    · exact hv.elim

theorem ix_sound {t ty elem : TypeId} {x i : Operand} {j : TypeInfo} (hu : P.underlying t = some (.slice elem)) (hj : P.info? elem = some j) (hv : vO P e h k (.ix (opX x) (opX i) j.size)) :
    RawO st P (ρ e) (.indexAddr t x i) ty h k := by
  simp only [vO, ev_opX] at hv
  split at hv
  · rename_i base len cap q n ex ei
    unfold Ix at hv
    obtain ⟨h0, h1, a, rfl, hv⟩ := hv
    unfold RawO
    simp only [execOp, ex, ei]
    refine val_of ?_
    unfold Instr.indexAt
    refine Sm.bind (Sm.pure ?_)
    refine Sm.bind (Sm.underlying hu ?_)
    refine Sm.bind (Sm.pure ?_)
    refine Sm.bind (Sm.underlying hu ?_)
    simp only []
    rw [if_pos ⟨h0, h1⟩]
    exact Sm.bind (Sm.sizeOf hj (Sm.pure hv))
  · exact hv.elim

theorem ixa_sound {t ty elem : TypeId} {x i : Operand} {j : TypeInfo} {n : Nat} (hu : P.underlying t = some (.array n elem)) (hj : P.info? elem = some j) (hv : vO P e h k (.ixa (opX x) (opX i) n j.size)) :
    RawO st P (ρ e) (.indexAddr t x i) ty h k := by
  simp only [vO, ev_opX] at hv
  split at hv
  · rename_i b q m ex ei
    unfold Ix at hv
    obtain ⟨h0, h1, a, ha, hv⟩ := hv
    injection ha with ha
    subst ha
    unfold RawO
    simp only [execOp, ex, ei]
    refine val_of ?_
    unfold Instr.indexAt
    refine Sm.bind (Sm.pure ?_)
    refine Sm.bind (Sm.underlying hu ?_)
    refine Sm.bind ?_
    refine Sm.pure ?_
    refine Sm.bind (Sm.pure ?_)
    refine Sm.bind (Sm.underlying hu ?_)
    simp only []
    rw [if_pos ⟨h0, h1⟩]
    exact Sm.bind (Sm.sizeOf hj (Sm.pure hv))
  · exact hv.elim

theorem Sl_out {base : Option Addr} {cap : Nat} {lo hi mx : Int} {sz : Nat} {kk : Value → Prop} (hs : Sl base cap lo hi mx sz kk) :
    0 ≤ lo ∧ lo ≤ hi ∧ hi ≤ mx ∧ mx ≤ cap ∧ kk (.slice (if mx.toNat = lo.toNat then base else base.map (·.add (lo.toNat * sz))) (hi.toNat - lo.toNat) (mx.toNat - lo.toNat)) := by
  unfold Sl at hs; exact hs

theorem sl_sound {t ty elem : TypeId} {x : Operand} {lo hi mx : Option Operand} {j : TypeInfo} (hm : mx = none ∨ hi ≠ none) (hu : P.underlying t = some (.slice elem)) (hj : P.info? elem = some j)
    (hv : vO P e h k (.sl (opX x) (lo.map opX) (hi.map opX) (mx.map opX) j.size)) : RawO st P (ρ e) (.slice t x lo hi mx) ty h k := by
  simp only [vO, ev_opX] at hv
  split at hv
  · rename_i base len cap ex
    unfold RawO
    simp only [execOp, ex]
    refine val_of ?_
    unfold Instr.sliceAt
    refine Sm.bind (Sm.underlying hu ?_)
    simp only []
    unfold Instr.slice
    refine Sm.bind (Sm.underlying hu ?_)
    simp only []
    refine Sm.bind (Sm.sliceBounds hm hv (fun l r m hk => ?_))
    obtain ⟨h0, h1, h2, h3, hk⟩ := Sl_out hk
    exact ⟨h0, h1, h2, h3, Sm.bind (Sm.sizeOf hj (Sm.pure hk))⟩
  · exact hv.elim

theorem sla_sound {t ty elem : TypeId} {x : Operand} {lo hi mx : Option Operand} {j : TypeInfo} {n : Nat} (hm : mx = none ∨ hi ≠ none) (hu : P.underlying t = some (.array n elem)) (hj : P.info? elem = some j)
    (hv : vO P e h k (.sla (opX x) (lo.map opX) (hi.map opX) (mx.map opX) n j.size)) : RawO st P (ρ e) (.slice t x lo hi mx) ty h k := by
  simp only [vO, ev_opX] at hv
  obtain ⟨a, ex, hv⟩ := ptr_out hv
  unfold RawO
  simp only [execOp, ex]
  refine val_of ?_
  unfold Instr.sliceAt
  refine Sm.bind (Sm.underlying hu ?_)
  refine Sm.bind (Sm.sureAddr ?_)
  refine Sm.bind (Sm.sliceBounds hm hv (fun l r m hk => ?_))
  obtain ⟨h0, h1, h2, h3, hk⟩ := Sl_out hk
  refine ⟨h0, h1, h2, h3, Sm.bind (Sm.sizeOf hj (Sm.pure ?_))⟩
  simp only [Option.map_some] at hk
  split at hk <;> rename_i hc
  · rw [if_pos hc]; exact hk
  · rw [if_neg hc]; exact hk
end
end Go.Proofs.YtiabgojnljfmhaaGreat.Ov
