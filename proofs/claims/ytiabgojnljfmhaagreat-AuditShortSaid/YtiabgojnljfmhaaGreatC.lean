/-
  THE SMALL TEXT IS MADE OUT OF THE CODE, AND WHAT IS SHOWN OF IT HOLDS OF THE CODE'S RUN. No condition: every statement is for every program.
-/
import Derived.Test.YtiabgojnljfmhaaGreatMo
import Derived.Tactics
namespace Go.Proofs.YtiabgojnljfmhaaGreat.Ov

def ρ (e : Env) : Operand → Value
  | .tmp t => e.get t
  | .const v => v
  | .global g => .pointer (some ⟨g, 0, none⟩)
  | .func f => .func (.func f) #[] #[]

def opX : Operand → X
  | .tmp t => .t t
  | .const (.int .i64 n) => .i n
  | .const (.bool b) => .b b
  | .const v => .c v
  | .global g => .g g
  | .func f => .f f
theorem ev_opX (e : Env) (x : Operand) : e.ev (opX x) = ρ e x := by
  unfold opX
  split <;> rfl

def isAggB (P : Program) (t : TypeId) : Option Bool :=
  match P.underlying t with
  | some (.struct _) | some (.array _ _) => some true
  | some _ => some false
  | none => none

def partsX (ps : Array (Nat × Operand)) : List (Nat × X) := ps.toList.map fun p => (p.1, opX p.2)

def compBin (P : Program) (op : BinOp) (t : TypeId) (x y : Operand) (yt ty : TypeId) : Option SO :=
  match P.underlying t, op with
  | some (.int _), .add | some (.int _), .sub | some (.int _), .mul => some (.ar op (opX x) (opX y))
  | some (.int _), .and | some (.int _), .or | some (.int _), .xor | some (.int _), .andNot => some (.bt op (opX x) (opX y))
  | some (.int _), .quo | some (.int _), .rem => some (.dv op (opX x) (opX y))
  | some (.int _), .shl | some (.int _), .shr => some (.sh op (opX x) (opX y))
  | some (.int _), .lss | some (.int _), .leq | some (.int _), .gtr | some (.int _), .geq | some (.int _), .eql | some (.int _), .neq => some (.cm op (opX x) (opX y))
  | _, _ => some (.raw (.binOp op t x y yt) ty)

def placesOf (P : Program) : List Field → Option (List (Nat × Nat))
  | [] => some []
  | f :: r => do
    let i ← P.info? f.type
    let r ← placesOf P r
    pure ((f.offset, i.size) :: r)
def partsAt (pl : List (Nat × Nat)) : List (Nat × Operand) → Option (List (Nat × Nat × X))
  | [] => some []
  | (i, x) :: r => do
    let (o, s) ← nth pl i
    let r ← partsAt pl r
    pure ((o, s, opX x) :: r)
def inOrder (i : Nat) : List (Nat × Operand) → Bool
  | [] => true
  | (j, _) :: r => Nat.beq i j && inOrder (i + 1) r

def compCall (P : Program) (c : Call) (ty : TypeId) : Option SO :=
  match c.callee, c.args.toList, c.argTypes.toList with
  | .value (.func f), args, _ =>
    match P.funcs[f]? with
    | some fn => if fn.body.isSome && fn.name != "runtime.NumGoroutine" then some (.call f (args.map opX)) else some (.raw (.call c) ty)
    | none => none
  | .builtin .len, [x], [t] =>
    match P.underlying t with
    | some (.slice _) => some (.len (opX x))
    | some .string => some (.lens (opX x))
    | some (.array n _) => some (.mv (.i n))
    | _ => some (.raw (.call c) ty)
  | .builtin .min, [x, y], _ => some (.mm false (opX x) (opX y))
  | .builtin .max, [x, y], _ => some (.mm true (opX x) (opX y))
  | .builtin .min, [x, y, z], _ => some (.mm3 false (opX x) (opX y) (opX z))
  | .builtin .max, [x, y, z], _ => some (.mm3 true (opX x) (opX y) (opX z))
  | .builtin .append, [x, y], [t, u] =>
    match P.underlying t, P.underlying u with
    | some (.slice elem), some (.slice _) =>
      match P.info? elem with
      | some i => match i.zero with
        | some z => some (.app (opX x) (opX y) elem i.size i.bytes (cellsOf z))
        | none => none
      | none => none
    | _, _ => some (.raw (.call c) ty)
  | _, _, _ => some (.raw (.call c) ty)

def compOp (P : Program) (op : Op) (ty : TypeId) : Option SO :=
  match op with
  | .move x | .assign x => some (.mv (opX x))
  | .pick c a b => some (.pk (opX c) (opX a) (opX b))
  | .box T x => some (.bx T (opX x))
  | .alloc T => match P.info? T with
    | some i => match i.zero with
      | some z => some (.al T (cellsOf z))
      | none => none
    | none => none
  | .buildSlice t len parts => match P.underlying t with
    | some (.slice elem) => match P.info? elem with
      | some i => match i.zero with
        | some _ => if inOrder 0 parts.toList && Nat.beq parts.toList.length len && Nat.ble (len * i.size) (2 ^ 24) then some (.bs elem len i.size (parts.toList.map fun p => opX p.2)) else some (.raw op ty)
        | none => none
      | none => none
    | _ => none
  | .build t parts => match P.underlying t, P.info? t with
    | some (.struct fs), some i => match placesOf P fs.toList, i.zero with
      | some pl, some z => match partsAt pl parts.toList with
        | some ps => bif ps.any (fun p => Nat.ble 16 p.2.1) then some (.bdn (cellsOf z) ps) else some (.bd (cellsOf z) ps)
        | none => none
      | _, _ => none
    | _, _ => some (.raw op ty)
  | .load t x => match isAggB P t, P.info? t with
    | some true, some i => some (.ldn (opX x) i.size)
    | some false, some _ => some (.ld (opX x))
    | _, _ => none
  | .store t a v => match isAggB P t, P.info? t with
    | some true, some i => some (.stn (opX a) (opX v) i.size)
    | some false, some i => if Nat.beq i.size 1 then some (.st (opX a) (opX v)) else none
    | _, _ => none
  | .nilCheck x => some (.nil (opX x))
  | .binOp op t x y yt => compBin P op t x y yt ty
  | .unOp .not _ x => some (.not (opX x))
  | .unOp .neg t x => match P.underlying t with
    | some (.int _) => some (.neg (opX x))
    | _ => some (.raw op ty)
  | .sliceToArrayPointer t x => match P.underlying t with
    | some (.array n _) => some (.s2a (opX x) n)
    | _ => some (.raw op ty)
  | .convert s d x => match P.underlying s, P.underlying d with
    | some (.int _), some (.int k) => some (.cv k (opX x))
    | some (.slice _), some (.slice el) => match P.underlying el with
      | some (.int .u8) => bif Nat.beq s d then some (.mrk (opX x)) else some (.raw op ty)
      | _ => some (.raw op ty)
    | _, _ => some (.raw op ty)
  | .fieldAddr s x f => match P.underlying s with
    | some (.struct fs) => match nth fs.toList f with
      | some fld => match P.info? fld.type with
        | some i => if Nat.beq i.size 0 then some (.raw op ty) else some (.fld (opX x) fld.offset)
        | none => none
      | none => none
    | _ => none
  | .field t x f => match P.underlying t with
    | some (.struct fs) => match nth fs.toList f with
      | some fld => match isAggB P fld.type, P.info? fld.type with
        | some true, some i => some (.fe (opX x) fld.offset (some i.size))
        | some false, some _ => some (.fe (opX x) fld.offset none)
        | _, _ => none
      | none => none
    | _ => none
  | .indexAddr t x i => match P.underlying t with
    | some (.slice elem) => match P.info? elem with
      | some j => some (.ix (opX x) (opX i) j.size)
      | none => none
    | some (.array n elem) => match P.info? elem with
      | some j => some (.ixa (opX x) (opX i) n j.size)
      | none => none
    | _ => none
  | .slice t x lo hi none => match P.underlying t with
    | some (.slice elem) => match P.info? elem with
      | some j => some (.sl (opX x) (lo.map opX) (hi.map opX) none j.size)
      | none => none
    | some (.array n elem) => match P.info? elem with
      | some j => some (.sla (opX x) (lo.map opX) (hi.map opX) none n j.size)
      | none => none
    | _ => some (.raw op ty)
  | .slice t x lo (some hi) (some mx) => match P.underlying t with
    | some (.slice elem) => match P.info? elem with
      | some j => some (.sl (opX x) (lo.map opX) (some (opX hi)) (some (opX mx)) j.size)
      | none => none
    | _ => some (.raw op ty)
  | .makeSlice t l c => match P.underlying t with
    | some (.slice elem) => match P.info? elem with
      | some i => match i.zero with
        | some z => if Nat.beq (cellsOf z).length i.size then some (.ms (opX l) (opX c) elem i.size i.bytes (cellsOf z)) else none
        | none => none
      | none => none
    | _ => none
  | .extract t i => some (.ex (opX t) i)
  | .call c => compCall P c ty
  | .go _ | .defer _ | .send _ _ | .recv _ _ _ | .select _ _ | .panic _ => none
  | op => some (.raw op ty)

/-! ### Its soundness, operation by operation -/
section
variable {x : Bool} {P : Program} {h : H} {k : Value → H → Prop}

theorem val_of {s : Sem Value} (hs : Sm x P s h k) : Sm x P (do pure (Next.value (← s))) h (okN x P k) :=
  Sm.bind (hs.mono fun _ _ hk => Sm.pure hk)
theorem unit_of {s : Sem Unit} (hs : Sm false P s h fun _ h' => k undef h') : Sm false P (do s; pure Next.skip) h (okN false P k) :=
  Sm.bind (hs.mono fun _ _ hk => Sm.pure ⟨rfl, hk⟩)

theorem cells_step (a : Addr) (i n : Nat) (acc : Array Value) :
    loadCellsFrom a i (n + 1) acc = (do let v ← load (a.add i); loadCellsFrom a (i + 1) n (acc.push v)) := rfl

theorem Sm.loadCellsFrom {a : Addr} {kk : Array Value → H → Prop} : ∀ (vs : List Value) (i : Nat) (acc : Array Value), cellsAt h a i vs → kk (acc ++ vs.toArray) h →
    Sm x P (loadCellsFrom a i vs.length acc) h kk := by
  intro vs
  induction vs with
  | nil => intro i acc _ hk; exact Sm.pure (by simpa using hk)
  | cons v r ih =>
    intro i acc hc hk
    rw [List.length_cons, cells_step]
    exact Sm.bind (Sm.load hc.1 (ih (i + 1) (acc.push v) hc.2 (by rw [show acc.push v ++ r.toArray = acc ++ (v :: r).toArray from by apply Array.ext'; simp]; exact hk)))
theorem Sm.loadCells {a : Addr} {kk : Array Value → H → Prop} {vs : List Value} {n : Nat} (hn : vs.length = n) (hc : cellsAt h a 0 vs) (hk : kk vs.toArray h) :
    Sm x P (loadCells a n) h kk := by
  subst hn
  exact Sm.loadCellsFrom vs 0 #[] hc (by simpa using hk)

theorem Sm.isAgg {t : TypeId} {b : Bool} {kk : Bool → H → Prop} (hb : isAggB P t = some b) (hk : kk b h) : Sm x P (isAgg t) h kk := by
  unfold Go.isAgg isAggB at *
  cases hu : P.underlying t with
  | none => rw [hu] at hb; cases hb
  | some d =>
    refine Sm.bind (Sm.underlying hu ?_)
    rw [hu] at hb
    cases d <;> simp at hb <;> subst hb <;> exact Sm.pure hk

theorem Sm.sureAddr {a : Addr} {kk : Addr → H → Prop} (hk : kk a h) : Sm x P (Instr.sureAddr (.pointer (some a))) h kk := Sm.pure hk

theorem Sm.loadVar {t : TypeId} {a : Addr} (hb : isAggB P t = some false) (hl : Ld h a fun v => k v h) : Sm x P (loadVar t a) h k := by
  unfold Ld at hl
  obtain ⟨v, hc, hk⟩ := hl
  unfold Go.loadVar
  refine Sm.bind (Sm.isAgg hb ?_)
  exact Sm.load hc hk
theorem Sm.loadVarN {t : TypeId} {a : Addr} {i : TypeInfo} (hb : isAggB P t = some true) (hi : P.info? t = some i) (hl : LdN h a i.size fun v => k v h) : Sm x P (Go.loadVar t a) h k := by
  unfold LdN at hl
  obtain ⟨vs, hn, hc, hk⟩ := hl
  unfold Go.loadVar
  refine Sm.bind (Sm.isAgg hb ?_)
  exact Sm.bind (Sm.sizeOf hi (Sm.bind (Sm.loadCells hn hc (Sm.pure hk))))

theorem storeCells_step (a : Addr) (v : Value) (r : List Value) (i : Nat) : storeCells a (v :: r) i = (do store (a.add i) v; storeCells a r (i + 1)) := rfl
theorem Sm.storeCells {a : Addr} {kk : H → Prop} : ∀ (vs : List Value) (i : Nat) (h : H), stN h a i vs kk → Sm false P (storeCells a vs i) h fun _ h' => kk h' := by
  intro vs
  induction vs with
  | nil => intro i h hk; exact Sm.pure hk
  | cons v r ih =>
    intro i h hk
    unfold stN St at hk
    obtain ⟨hv, ⟨u, hc⟩, hf, hk⟩ := hk
    rw [storeCells_step]
    exact Sm.bind (Sm.store hv hc hf (ih _ _ hk))

theorem Sm.storeVar {t : TypeId} {a : Addr} {v : Value} {i : TypeInfo} {kk : H → Prop} (hi : P.info? t = some i) (hs : v.cells.size = i.size) (hl : stN h a 0 v.cells.toList kk) :
    Sm false P (storeVar t a v) h fun _ h' => kk h' := by
  unfold Go.storeVar
  refine Sm.bind (Sm.sizeOf hi ?_)
  rw [if_neg (by simpa using hs)]
  exact Sm.storeCells _ 0 h hl

theorem Sm.sliceBound {n : Int} {q : IntKind} {y : Nat} {c : BoundsCode} {kk : Nat → H → Prop} (h0 : 0 ≤ n) (h1 : n ≤ y) (hk : kk n.toNat h) :
    Sm x P (Instr.sliceBound (.int q n) y c) h kk := by
  unfold Instr.sliceBound
  refine Sm.bind (Sm.pure ?_)
  show Sm x P (if 0 ≤ n ∧ n ≤ (y : Int) then Pure.pure n.toNat else boundsPanic q n y c) h kk
  rw [if_pos ⟨h0, h1⟩]
  exact Sm.pure hk

theorem xInt_out {e : Env} {d : Int} {o : Option X} {kk : Int → Prop} (hx : xInt e d o kk) : (o = none ∧ kk d) ∨ ∃ y q n, o = some y ∧ e.ev y = .int q n ∧ kk n := by
  unfold xInt at hx
  cases o with
  | none => exact .inl ⟨rfl, hx⟩
  | some y =>
    right
    dsimp only at hx
    cases hv : e.ev y <;> rw [hv] at hx <;> first | exact hx.elim | exact ⟨y, _, _, rfl, hv, hx⟩

/-- The bounds of a slice expression, all three or none of the last. -/
theorem Sm.sliceBounds {e : Env} {s : Bool} {len cap : Nat} {lo hi mx : Option Operand} {kk : Int → Int → Int → Prop} {kn : Nat × Nat × Nat → H → Prop}
    (hm : mx = none ∨ hi ≠ none)
    (hx : xInt e 0 (lo.map opX) fun l => xInt e len (hi.map opX) fun r => xInt e cap (mx.map opX) fun m => kk l r m)
    (hk : ∀ l r m, kk l r m → 0 ≤ l ∧ l ≤ r ∧ r ≤ m ∧ m ≤ cap ∧ kn (l.toNat, r.toNat, m.toNat) h) :
    Sm x P (Instr.sliceBounds s len cap (lo.map (ρ e)) (hi.map (ρ e)) (mx.map (ρ e))) h kn := by
  unfold Instr.sliceBounds
  rcases xInt_out hx with ⟨hlo, hx⟩ | ⟨x1, q1, n1, hlo, e1, hx⟩ <;> rcases xInt_out hx with ⟨hhi, hx⟩ | ⟨x2, q2, n2, hhi, e2, hx⟩ <;>
    rcases xInt_out hx with ⟨hmx, hx⟩ | ⟨x3, q3, n3, hmx, e3, hx⟩ <;> obtain ⟨b1, b2, b3, b4, hn⟩ := hk _ _ _ hx <;>
    cases lo <;> cases hi <;> cases mx <;> simp only [Option.map_some, Option.map_none, reduceCtorEq, Option.some.injEq] at hlo hhi hmx <;>
    (try subst hlo) <;> (try subst hhi) <;> (try subst hmx) <;> (try (simp at hm; done)) <;>
    (try rw [ev_opX] at e1) <;> (try rw [ev_opX] at e2) <;> (try rw [ev_opX] at e3) <;>
    (try simp only [Option.map_some, Option.map_none, e1]) <;> (try simp only [Option.map_some, Option.map_none, e2]) <;> (try simp only [Option.map_some, Option.map_none, e3]) <;>
    (refine Sm.bind ?_; first | refine Sm.sliceBound (by omega) (by omega) ?_ | refine Sm.pure ?_) <;>
    (refine Sm.bind ?_; first | refine Sm.sliceBound (by omega) (by omega) ?_ | refine Sm.pure ?_) <;>
    (refine Sm.bind ?_; first | refine Sm.sliceBound (by omega) (by omega) ?_ | refine Sm.pure ?_) <;>
    exact Sm.pure (by simpa using hn)
end
end Go.Proofs.YtiabgojnljfmhaaGreat.Ov
