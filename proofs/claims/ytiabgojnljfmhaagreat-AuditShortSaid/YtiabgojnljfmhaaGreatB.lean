/-
  A SMALL TEXT FOR A FUNCTION's CODE, AND WHAT IT MEANS: 'SC' is the code with its types' sizes worked in; 'dC' says what must hold so that a run of it, from an environment and a heap, ends in what is asked.
  No condition: every statement is for every program. 'compC' makes the small text out of the code; 'Fn.of' carries what is shown of it over to the call.
-/
import Derived.Test.YtiabgojnljfmhaaGreatA
namespace Go.Proofs.YtiabgojnljfmhaaGreat.Ov

inductive X where
  | t (n : Nat)
  | i (n : Int)
  | b (b : Bool)
  | f (n : Nat)
  | c (v : Value)
  | g (n : Nat)

inductive Env where
  | base (g : Nat → Value)
  | put (e : Env) (t : Nat) (v : Value)

def Env.get : Env → Nat → Value
  | .base g, t => g t
  | .put e s v, t => bif Nat.beq s t then v else e.get t

def Env.ev (e : Env) : X → Value
  | .t n => e.get n
  | .i n => .int .i64 n
  | .b b => .bool b
  | .f n => .func (.func n) #[] #[]
  | .c v => v
  | .g n => .pointer (some ⟨n, 0, none⟩)

def X.op : X → Operand
  | .t n => .tmp n
  | .i n => .const (.int .i64 n)
  | .b v => .const (.bool v)
  | .f n => .func n
  | .c v => .const v
  | .g n => .global n

/-- A value, its head laid bare. -/
def force (v : Value) (k : Value → Prop) : Prop :=
  match v with
  | .bool b => k (.bool b)
  | .int q n => k (.int q n)
  | .float q n => k (.float q n)
  | .complex q n m => k (.complex q n m)
  | .string s => k (.string s)
  | .pointer a => k (.pointer a)
  | .slice a n m => k (.slice a n m)
  | .map r => k (.map r)
  | .chan r => k (.chan r)
  | .func f a b => k (.func f a b)
  | .nilFunc => k .nilFunc
  | .iface t v => k (.iface t v)
  | .nilIface => k .nilIface
  | .agg cs => k (.agg cs)
  | .tuple vs => k (.tuple vs)
theorem force_eq (v : Value) (k : Value → Prop) : force v k = k v := by cases v <;> rfl

def forceL : List Value → (List Value → Prop) → Prop
  | [], k => k []
  | v :: r, k => force v fun v => forceL r fun r => k (v :: r)
theorem forceL_eq (l : List Value) (k : List Value → Prop) : forceL l k = k l := by
  induction l generalizing k with
  | nil => rfl
  | cons v r ih => simp [forceL, force_eq, ih]

def nth {α : Type} : List α → Nat → Option α
  | [], _ => none
  | a :: _, 0 => some a
  | _ :: r, n + 1 => nth r n
theorem nth_eq {α : Type} (l : List α) (n : Nat) : nth l n = l[n]? := by
  induction l generalizing n with
  | nil => rfl
  | cons a r ih => cases n <;> simp [nth, ih]

def cellsOf (v : Value) : List Value :=
  match v with
  | .agg cs => cs.toList
  | v => [v]
theorem cellsOf_eq (v : Value) : cellsOf v = v.cells.toList := by cases v <;> rfl

/-! ### What is asked of the one that proves -/

@[irreducible] def Ld (h : H) (a : Addr) (k : Value → Prop) : Prop := ∃ v, hcell h a = some v ∧ k v
def cellsAt (h : H) (a : Addr) : Nat → List Value → Prop
  | _, [] => True
  | i, v :: r => hcell h (a.add i) = some v ∧ cellsAt h a (i + 1) r
@[irreducible] def LdN (h : H) (a : Addr) (n : Nat) (k : Value → Prop) : Prop := ∃ vs, vs.length = n ∧ cellsAt h a 0 vs ∧ k (.agg vs.toArray)
@[irreducible] def St (h : H) (a : Addr) (v : Value) (k : H → Prop) : Prop :=
  v.oneCell' = true ∧ (∃ u, hcell h a = some u) ∧ hfroz h a = false ∧ k (hset h a v)
def stN (h : H) (a : Addr) : Nat → List Value → (H → Prop) → Prop
  | _, [], k => k h
  | i, v :: r, k => St h (a.add i) v fun h' => stN h' a (i + 1) r k
@[irreducible] def StN (h : H) (a : Addr) (vs : List Value) (k : H → Prop) : Prop := stN h a 0 vs k
@[irreducible] def New (h : H) (o : Obj) (k : Nat → H → Prop) : Prop := k h.size (h.push o)
@[irreducible] def Ar (q : IntKind) (n : Int) (k : Int → Prop) : Prop := k (q.wrap n)
@[irreducible] def Quo (q : IntKind) (a b : Int) (k : Int → Prop) : Prop := b ≠ 0 ∧ k (q.wrap (a.tdiv b))
@[irreducible] def Rem (a b : Int) (k : Int → Prop) : Prop := b ≠ 0 ∧ k (a.tmod b)
@[irreducible] def Shr (q : IntKind) (a b : Int) (k : Int → Prop) : Prop := 0 ≤ b ∧ k (a.fdiv (2 ^ min b.toNat q.bits))
@[irreducible] def Shl (q : IntKind) (a b : Int) (k : Int → Prop) : Prop := 0 ≤ b ∧ k (q.wrap (a * 2 ^ min b.toNat q.bits))
def bitsV (op : BinOp) (q : IntKind) (x y : Int) : Int :=
  match op with
  | .and => q.wrap (BitVec.ofInt q.bits x &&& BitVec.ofInt q.bits y).toNat
  | .or => q.wrap (BitVec.ofInt q.bits x ||| BitVec.ofInt q.bits y).toNat
  | .xor => q.wrap (BitVec.ofInt q.bits x ^^^ BitVec.ofInt q.bits y).toNat
  | _ => q.wrap (BitVec.ofInt q.bits x &&& ~~~BitVec.ofInt q.bits y).toNat
@[irreducible] def Bits (op : BinOp) (q : IntKind) (a b : Int) (k : Int → Prop) : Prop := k (bitsV op q a b)
@[irreducible] def CLt (a b : Int) (k : Bool → Prop) : Prop := k (decide (a < b))
@[irreducible] def CLe (a b : Int) (k : Bool → Prop) : Prop := k (decide (a ≤ b))
@[irreducible] def CEq (a b : Int) (k : Bool → Prop) : Prop := k (a == b)
@[irreducible] def CNe (a b : Int) (k : Bool → Prop) : Prop := k (a != b)
@[irreducible] def Ix (base : Option Addr) (len : Nat) (i : Int) (sz : Nat) (k : Addr → Prop) : Prop :=
  0 ≤ i ∧ i < len ∧ ∃ a, base = some a ∧ k (a.add (i.toNat * sz))
@[irreducible] def Sl (base : Option Addr) (cap : Nat) (lo hi mx : Int) (sz : Nat) (k : Value → Prop) : Prop :=
  0 ≤ lo ∧ lo ≤ hi ∧ hi ≤ mx ∧ mx ≤ cap ∧ k (.slice (if mx.toNat = lo.toNat then base else base.map (·.add (lo.toNat * sz))) (hi.toNat - lo.toNat) (mx.toNat - lo.toNat))
/-- The cells of a slice (n cells from its beginning). -/
def readsAs (h : H) (base : Option Addr) (n : Nat) (vs : List Value) : Prop :=
  match base with
  | none => vs = []
  | some a => vs.length = n ∧ cellsAt h a 0 vs
@[irreducible] def App (h : H) (T sz by' : Nat) (z : List Value) (base : Option Addr) (len cap : Nat) (b2 : Option Addr) (n2 : Nat) (k : Value → H → Prop) : Prop :=
  ∃ new, readsAs h b2 (n2 * sz) new ∧
    (len + n2 ≤ cap → match base with
      | none => k (.slice none (len + n2) cap) h
      | some a => stN h (a.add (len * sz)) 0 new fun h' => k (.slice base (len + n2) cap) h') ∧
    (cap < len + n2 → by' ≠ 0 ∧ Builtin.nextslicecap (len + n2) cap * by' ≤ 2 ^ 48 ∧ ∃ old, readsAs h base (len * sz) old ∧
      ∀ nc, len + n2 ≤ nc → k (.slice (some ⟨h.size, 0, none⟩) (len + n2) nc)
        (h.push (.cells (old.toArray ++ new.toArray ++ Builtin.zeroCells z.toArray (nc - (len + n2))) T)))

@[irreducible] def Mk (h : H) (T sz by' : Nat) (z : List Value) (l c : Int) (k : Value → H → Prop) : Prop :=
  0 ≤ l ∧ l ≤ c ∧ c ≤ 2 ^ 48 ∧ by' * c ≤ 2 ^ 48 ∧
    k (.slice (some ⟨h.size, 0, none⟩) l.toNat c.toNat) (h.push (.cells (Builtin.zeroCells z.toArray c.toNat) T))

/-- The place behind a row's last cell is marked. -/
@[irreducible] def Mrk (h : H) (a : Addr) (k : H → Prop) : Prop := ∃ c T fz, h[a.block]? = some (.cells c T fz) ∧ k (hfreeze h a.block c.size)

@[irreducible] def S2a (a : Option Addr) (m n : Nat) (k : Option Addr → Prop) : Prop := n ≤ m ∧ k a

def kEq : IntKind → IntKind → Prop → Prop
  | .i8, .i8, p | .i16, .i16, p | .i32, .i32, p | .i64, .i64, p | .u8, .u8, p | .u16, .u16, p | .u32, .u32, p | .u64, .u64, p => p
  | _, _, _ => False
theorem kEq_out {a b : IntKind} {p : Prop} (h : kEq a b p) : a = b ∧ p := by cases a <;> cases b <;> first | exact ⟨rfl, h⟩ | exact h.elim

/-! ### One operation -/
inductive SO where
  | mv (x : X)
  | nil (x : X)
  | fld (x : X) (off : Nat)
  | ld (x : X)
  | ldn (x : X) (n : Nat)
  | st (x v : X)
  | stn (x v : X) (n : Nat)
  | ar (op : BinOp) (x y : X)
  | bt (op : BinOp) (x y : X)
  | dv (op : BinOp) (x y : X)
  | sh (op : BinOp) (x y : X)
  | cm (op : BinOp) (x y : X)
  | not (x : X)
  | neg (x : X)
  | pk (c a b : X)
  | ix (x i : X) (sz : Nat)
  | ixa (x i : X) (n sz : Nat)
  | sl (x : X) (lo hi mx : Option X) (sz : Nat)
  | sla (x : X) (lo hi mx : Option X) (n sz : Nat)
  | call (f : Nat) (args : List X)
  | len (x : X)
  | lens (x : X)
  | mm (mx : Bool) (x y : X)
  | mm3 (mx : Bool) (x y z : X)
  | app (x y : X) (T sz by' : Nat) (z : List Value)
  | bs (T n sz : Nat) (parts : List X)
  | bd (z : List Value) (parts : List (Nat × Nat × X))
  | bdn (z : List Value) (parts : List (Nat × Nat × X))
  | ms (l c : X) (T sz by' : Nat) (z : List Value)
  | bx (T : Nat) (x : X)
  | al (T : Nat) (cells : List Value)
  | ex (x : X) (i : Nat)
  | fe (x : X) (off : Nat) (n : Option Nat)
  | cv (q : IntKind) (x : X)
  | mrk (x : X)
  | s2a (x : X) (n : Nat)
  | raw (op : Op) (ty : TypeId)

def okN (x : Bool) (P : Program) (k : Value → H → Prop) (nx : Next) (h' : H) : Prop :=
  match nx with
  | .value v => k v h'
  | .skip => x = false ∧ k undef h'
  | .enter f args => x = false ∧ Fn P f args h' k
  | _ => False
def RawO (x : Bool) (P : Program) (ρ : Operand → Value) (op : Op) (ty : TypeId) (h : H) (k : Value → H → Prop) : Prop :=
  Sm x P (execOp ρ { dst := none, op, type := ty, pos := "", after := #[], guard := none }) h (okN x P k)
@[irreducible] def Raw (P : Program) (e : Env) (op : Op) (ty : TypeId) (h : H) (k : Value → H → Prop) : Prop :=
  RawO false P (fun | .tmp t => e.get t | .const v => v | .global g => .pointer (some ⟨g, 0, none⟩) | .func f => .func (.func f) #[] #[]) op ty h k

def xInt (e : Env) (d : Int) (x : Option X) (k : Int → Prop) : Prop :=
  match x with
  | none => k d
  | some x => match e.ev x with
    | .int _ n => k n
    | _ => False

def sized (sz : Nat) : List Value → Prop → Prop
  | [], p => p
  | v :: r, p => bif Nat.beq (cellsOf v).length sz then sized sz r p else False
def putL : List Value → Nat → List Value → List Value
  | [], _, cs => cs
  | v :: r, i, cs => putL r (i + 1) (cs.set i v)
def fillL (e : Env) : List Value → List (Nat × Nat × X) → (List Value → Prop) → Prop
  | cs, [], k => k cs
  | cs, (off, sz, x) :: r, k => force (e.ev x) fun v =>
    bif Nat.beq (cellsOf v).length sz && Nat.ble (off + sz) cs.length then fillL e (putL (cellsOf v) off cs) r k else False

/-- The same, with a part of many cells. -/
@[irreducible] def Fil (e : Env) (z : List Value) (parts : List (Nat × Nat × X)) (k : List Value → Prop) : Prop := fillL e z parts k

def vO (P : Program) (e : Env) (h : H) (k : Value → H → Prop) : SO → Prop
  | .mv x => force (e.ev x) fun v => k v h
  | .nil x => match e.ev x with
    | .pointer (some a) => k (.pointer (some a)) h
    | _ => False
  | .fld x off => match e.ev x with
    | .pointer (some a) => k (.pointer (some (a.add off))) h
    | _ => False
  | .ld x => match e.ev x with
    | .pointer (some a) => Ld h a fun v => k v h
    | _ => False
  | .ldn x n => match e.ev x with
    | .pointer (some a) => LdN h a n fun v => k v h
    | _ => False
  | .st x v => match e.ev x with
    | .pointer (some a) => force (e.ev v) fun v => St h a v fun h' => k undef h'
    | _ => False
  | .stn x v n => match e.ev x, e.ev v with
    | .pointer (some a), .agg cs => cs.toList.length = n ∧ StN h a cs.toList fun h' => k undef h'
    | _, _ => False
  | .ar op x y => match e.ev x, e.ev y with
    | .int q a, .int q' b => kEq q q' (match op with
      | .add => Ar q (a + b) fun n => k (.int q n) h
      | .sub => Ar q (a - b) fun n => k (.int q n) h
      | .mul => Ar q (a * b) fun n => k (.int q n) h
      | _ => False)
    | _, _ => False
  | .bt op x y => match e.ev x, e.ev y with
    | .int q a, .int q' b => kEq q q' (match op with
      | .and => Bits .and q a b fun n => k (.int q n) h
      | .or => Bits .or q a b fun n => k (.int q n) h
      | .xor => Bits .xor q a b fun n => k (.int q n) h
      | .andNot => Bits .andNot q a b fun n => k (.int q n) h
      | _ => False)
    | _, _ => False
  | .dv op x y => match e.ev x, e.ev y with
    | .int q a, .int q' b => kEq q q' (match op with
      | .quo => Quo q a b fun n => k (.int q n) h
      | .rem => Rem a b fun n => k (.int q n) h
      | _ => False)
    | _, _ => False
  | .sh op x y => match e.ev x, e.ev y with
    | .int q a, .int _ b => match op with
      | .shl => Shl q a b fun n => k (.int q n) h
      | .shr => Shr q a b fun n => k (.int q n) h
      | _ => False
    | _, _ => False
  | .cm op x y => match e.ev x, e.ev y with
    | .int q a, .int q' b => kEq q q' (match op with
      | .lss => CLt a b fun r => k (.bool r) h
      | .leq => CLe a b fun r => k (.bool r) h
      | .gtr => CLt b a fun r => k (.bool r) h
      | .geq => CLe b a fun r => k (.bool r) h
      | .eql => CEq a b fun r => k (.bool r) h
      | .neq => CNe a b fun r => k (.bool r) h
      | _ => False)
    | _, _ => False
  | .not x => match e.ev x with
    | .bool b => k (.bool !b) h
    | _ => False
  | .neg x => match e.ev x with
    | .int q n => Ar q (0 - n) fun n => k (.int q n) h
    | _ => False
  | .pk c a b => match e.ev c with
    | .bool true => force (e.ev a) fun v => k v h
    | .bool false => force (e.ev b) fun v => k v h
    | _ => False
  | .ix x i sz => match e.ev x, e.ev i with
    | .slice base len _, .int _ i => Ix base len i sz fun a => k (.pointer (some a)) h
    | _, _ => False
  | .ixa x i n sz => match e.ev x, e.ev i with
    | .pointer (some a), .int _ i => Ix (some a) n i sz fun a => k (.pointer (some a)) h
    | _, _ => False
  | .sl x lo hi mx sz => match e.ev x with
    | .slice base len cap => xInt e 0 lo fun lo => xInt e len hi fun hi => xInt e cap mx fun mx => Sl base cap lo hi mx sz fun v => k v h
    | _ => False
  | .sla x lo hi mx n sz => match e.ev x with
    | .pointer (some a) => xInt e 0 lo fun lo => xInt e n hi fun hi => xInt e n mx fun mx => Sl (some a) n lo hi mx sz fun v => k v h
    | _ => False
  | .call f args => forceL (args.map e.ev) fun vs => Fn P f vs.toArray h k
  | .len x => match e.ev x with
    | .slice _ n _ => k (.int .i64 n) h
    | _ => False
  | .lens x => match e.ev x with
    | .string s => k (.int .i64 s.size) h
    | _ => False
  | .mm mx x y => match e.ev x, e.ev y with
    | .int q a, .int _ b => match mx with
      | true => k (.int q (max a b)) h
      | false => k (.int q (min a b)) h
    | _, _ => False
  | .mm3 mx x y z => match e.ev x, e.ev y, e.ev z with
    | .int q a, .int _ b, .int _ c => match mx with
      | true => k (.int q (max (max a b) c)) h
      | false => k (.int q (min (min a b) c)) h
    | _, _, _ => False
  | .app x y T sz by' z => match e.ev x, e.ev y with
    | .slice base len cap, .slice b2 n2 _ => App h T sz by' z base len cap b2 n2 k
    | _, _ => False
  | .bd z parts => fillL e z parts fun cs => k (.agg cs.toArray) h
  | .bdn z parts => Fil e z parts fun cs => k (.agg cs.toArray) h
  | .ms l c T sz by' z => match e.ev l, e.ev c with
    | .int _ l, .int _ c => Mk h T sz by' z l c k
    | _, _ => False
  | .bs T n sz parts => forceL (parts.map e.ev) fun vs => sized sz vs <| New h (.cells (vs.flatMap cellsOf).toArray T) fun r h' => k (.slice (some ⟨r, 0, none⟩) n n) h'
  | .bx T x => force (e.ev x) fun v => New h (.cells (cellsOf v).toArray T) fun r h' => k (.pointer (some ⟨r, 0, none⟩)) h'
  | .al T cells => New h (.cells cells.toArray T) fun r h' => k (.pointer (some ⟨r, 0, none⟩)) h'
  | .ex x i => match e.ev x with
    | .tuple vs => match nth vs.toList i with
      | some v => force v fun v => k v h
      | none => False
    | _ => False
  | .fe x off n => match e.ev x with
    | .agg cs => match n with
      | none => match nth cs.toList off with
        | some v => force v fun v => k v h
        | none => False
      | some n => k (.agg ((cs.toList.drop off).take n).toArray) h
    | _ => False
  | .cv q x => match e.ev x with
    | .int _ n => Ar q n fun n => k (.int q n) h
    | _ => False
  | .s2a x n => match e.ev x with
    | .slice a m _ => S2a a m n fun a => k (.pointer a) h
    | _ => False
  | .mrk x => match e.ev x with
    | .slice (some a) n c => Mrk h a fun h' => k (.slice (some a) n c) h'
    | _ => False
  | .raw op ty => Raw P e op ty h k

/-! ### A row of operations; code -/
inductive S where
  | o (d : Nat) (x : SO)
  | n (x : SO)
  | g (s : Nat) (want : Bool) (d : Nat) (x : SO)
  | gn (s : Nat) (want : Bool) (x : SO)

def guarded (v : Value) (want : Bool) (run skip : Prop) : Prop :=
  match v with
  | .bool true => bif want then run else skip
  | .bool false => bif want then skip else run
  | .tuple _ => skip
  | _ => False

def dL (P : Program) : List S → Env → H → (Env → H → Prop) → Prop
  | [], e, h, K => K e h
  | .o d x :: r, e, h, K => vO P e h (fun v h' => dL P r (e.put d v) h' K) x
  | .n x :: r, e, h, K => vO P e h (fun _ h' => dL P r e h' K) x
  | .g s want d x :: r, e, h, K => guarded (e.get s) want (vO P e h (fun v h' => dL P r (e.put d v) h' K) x) (dL P r (e.put d undef) h K)
  | .gn s want x :: r, e, h, K => guarded (e.get s) want (vO P e h (fun _ h' => dL P r e h' K) x) (dL P r e h K)

inductive SX where
  | exit (i : Nat)
  | ret

/-- A region whose order is open: what is taken first, and where it forks. -/
inductive PS where
  | done
  | stop
  | take (s : S) (p : PS)
  | alt (s : S) (p q : PS)

def dP (P : Program) : PS → Env → H → (Env → H → Prop) → Prop
  | .done, e, h, K => K e h
  | .stop, _, _, _ => True
  | .take s p, e, h, K => dL P [s] e h fun e h => dP P p e h K
  | .alt s p .stop, e, h, K => dL P [s] e h fun e h => dP P p e h K
  | .alt s p q, e, h, K => (dL P [s] e h fun e h => dP P p e h K) ∧ dP P q e h K

theorem alt_out {P : Program} {s : S} {p q : PS} {e : Env} {h : H} {K : Env → H → Prop} (hd : dP P (.alt s p q) e h K) : (dL P [s] e h fun e h => dP P p e h K) ∧ dP P q e h K := by
  cases q <;> first | exact ⟨hd, trivial⟩ | exact hd
theorem alt_in {P : Program} {s : S} {p q : PS} {e : Env} {h : H} {K : Env → H → Prop} (hd : (dL P [s] e h fun e h => dP P p e h K) ∧ dP P q e h K) : dP P (.alt s p q) e h K := by
  cases q <;> first | exact hd | exact hd.1

/-! ### A region whose order is open, and in which nothing that was there is touched -/
def needs (Q : Nat → Value → H → Prop) (h : H) : List Nat → Env → (Env → Prop) → Prop
  | [], e, k => k e
  | t :: r, e, k => ∀ v, Q t v h → force v fun v => needs Q h r (e.put t v) k
def oblH (P : Program) (Q : Nat → Value → H → Prop) (e : Env) (h : H) : List (Nat × List Nat × SO) → Prop
  | [] => True
  | (t, ds, x) :: r => (∀ h', Keep h.size h h' → needs Q h' ds e fun e' => vO P e' h' (fun v h'' => Keep h.size h' h'' ∧ Q t v h'') x) ∧ oblH P Q e h r
@[irreducible] def FreeH (P : Program) (hd : List (Nat × List Nat × SO)) (K : Env → H → Prop) (e : Env) (h : H) : Prop :=
  ∃ Q : Nat → Value → H → Prop, (∀ t v h1 h2, Sims h1 h2 → Q t v h1 → Q t v h2) ∧ oblH P Q e h hd ∧ ∀ h', Keep h.size h h' → needs Q h' (hd.map (·.1)) e fun e' => K e' h'
def preL : List (Nat × SO) → List S
  | [] => []
  | (t, x) :: r => .o t x :: preL r

/-! ### A region whose order is open: first what leaves the world as it is, whatever is done besides -/
@[irreducible] def LdM (M : List Nat) (h : H) (a : Addr) (k : Value → Prop) : Prop := a.block ∉ M ∧ Ld h a k
@[irreducible] def LdNM (M : List Nat) (h : H) (a : Addr) (n : Nat) (k : Value → Prop) : Prop := a.block ∉ M ∧ LdN h a n k
def vM (P : Program) (M : List Nat) (e : Env) (h : H) (k : Value → H → Prop) : SO → Prop
  | .ld x => match e.ev x with
    | .pointer (some a) => LdM M h a fun v => k v h
    | _ => False
  | .ldn x n => match e.ev x with
    | .pointer (some a) => LdNM M h a n fun v => k v h
    | _ => False
  | x => vO P e h k x
def dM (P : Program) (M : List Nat) : List S → Env → H → (Env → H → Prop) → Prop
  | [], e, h, K => K e h
  | .o d x :: r, e, h, K => vM P M e h (fun v h' => dM P M r (e.put d v) h' K) x
  | .n x :: r, e, h, K => vM P M e h (fun _ h' => dM P M r e h' K) x
  | .g s want d x :: r, e, h, K => guarded (e.get s) want (vM P M e h (fun v h' => dM P M r (e.put d v) h' K) x) (dM P M r (e.put d undef) h K)
  | .gn s want x :: r, e, h, K => guarded (e.get s) want (vM P M e h (fun _ h' => dM P M r e h' K) x) (dM P M r e h K)
/-- A plan; 'need': something that was read first may still be read behind it. -/
inductive PH where
  | done
  | stop
  | take (s : S) (p : PH)
  | alt (need : Bool) (s : S) (p q : PH)
def dH (P : Program) (M : List Nat) (h0 : H) : PH → Env → H → (Env → H → Prop) → Prop
  | .done, e, h, K => K e h
  | .stop, _, _, _ => True
  | .take s p, e, h, K => dL P [s] e h fun e h' => dH P M h0 p e h' K
  | .alt need s p .stop, e, h, K => dL P [s] e h fun e h' => bif need then Only M h0 h' ∧ dH P M h0 p e h' K else dH P M h0 p e h' K
  | .alt need s p q, e, h, K => (dL P [s] e h fun e h' => bif need then Only M h0 h' ∧ dH P M h0 p e h' K else dH P M h0 p e h' K) ∧ dH P M h0 q e h K
@[irreducible] def HeldH (P : Program) (l : List S) (p : PH) (K : Env → H → Prop) (e : Env) (h : H) : Prop := ∃ M, dM P M l e h fun e h' => dH P M h p e h' K

inductive SC where
  | skip
  | ops (l : List S)
  | any (p : PS)
  | held (l : List S) (p : PH)
  | free (pre : List (Nat × SO)) (hd : List (Nat × List Nat × SO)) (tl : List S)
  | seq (a b : SC)
  | cond (c : X) (a b : SC)
  | block (i : Nat) (b : SC)
  | loop (mods : List Nat) (b : SC)
  | exit (i : Nat)
  | ret

def mem (t : Nat) : List Nat → Bool
  | [] => false
  | s :: r => bif Nat.beq s t then true else mem t r
theorem mem_iff (t : Nat) (l : List Nat) : mem t l = true ↔ t ∈ l := by
  induction l with
  | nil => simp [mem]
  | cons s r ih =>
    by_cases h : s = t
    · simp [mem, h]
    · have : Nat.beq s t = false := by
        cases hb : Nat.beq s t with
        | false => rfl
        | true => exact absurd (Nat.eq_of_beq_eq_true hb) h
      simp [mem, this, ih]
      exact fun h' => absurd h'.symm h

def Env.drop (mods : List Nat) (g : Nat → Value) : Env → Env
  | .base g0 => .base fun t => bif mem t mods then g t else g0 t
  | .put e t v => bif mem t mods then e.drop mods g else .put (e.drop mods g) t v
def Env.puts (e : Env) : List (Nat × Value) → Env
  | [] => e
  | (t, v) :: r => (e.put t v).puts r
def Ents (e : Env) : List (Nat × Value) → Prop
  | [] => True
  | (t, v) :: r => e.get t = v ∧ Ents e r

@[irreducible] def LoopH (B : Env → H → (Env → H → Prop) → Prop) (mods : List Nat) (e : Env) (h : H) : Prop :=
  ∃ (σ : Type) (new : σ → List (Nat × Value)) (I : σ → H → Prop) (μ : σ → H → Nat) (s0 : σ), Ents e (new s0) ∧ I s0 h ∧
    ∀ s h' g, I s h' → B ((e.drop mods g).puts (new s)) h' fun e' h'' => ∃ s', Ents e' (new s') ∧ I s' h'' ∧ μ s' h'' < μ s h'

def blockX (i : Nat) (Kn : Env → H → Prop) (Kx : SX → Env → H → Prop) : SX → Env → H → Prop
  | .exit j, e, h => bif Nat.beq j i then Kn e h else Kx (.exit j) e h
  | .ret, e, h => Kx .ret e h

def dC (P : Program) : SC → Env → H → (Env → H → Prop) → (SX → Env → H → Prop) → Prop
  | .skip, e, h, Kn, _ => Kn e h
  | .ops l, e, h, Kn, _ => dL P l e h Kn
  | .any p, e, h, Kn, _ => dP P p e h Kn
  | .held l p, e, h, Kn, _ => HeldH P l p Kn e h
  | .free pre hd tl, e, h, Kn, _ => dL P (preL pre) e h fun e h => FreeH P hd (fun e h => dL P tl e h Kn) e h
  | .seq a b, e, h, Kn, Kx => dC P a e h (fun e h => dC P b e h Kn Kx) Kx
  | .cond c a b, e, h, Kn, Kx => match e.ev c with
    | .bool true => dC P a e h Kn Kx
    | .bool false => dC P b e h Kn Kx
    | _ => False
  | .block i b, e, h, Kn, Kx => dC P b e h Kn (blockX i Kn Kx)
  | .loop mods b, e, h, _, Kx => LoopH (fun e h Kn => dC P b e h Kn Kx) mods e h
  | .exit i, e, h, _, Kx => Kx (.exit i) e h
  | .ret, e, h, _, Kx => Kx .ret e h

/-! ### What a function hands back -/
inductive RV where
  | tmp (t : Nat)
  | cell (t : Nat)
  | cells (t n : Nat)

def rets (e : Env) (h : H) : List RV → (List Value → Prop) → Prop
  | [], k => k []
  | .tmp t :: r, k => force (e.get t) fun v => rets e h r fun vs => k (v :: vs)
  | .cell t :: r, k => match e.get t with
    | .pointer (some a) => Ld h a fun v => rets e h r fun vs => k (v :: vs)
    | _ => False
  | .cells t n :: r, k => match e.get t with
    | .pointer (some a) => LdN h a n fun v => rets e h r fun vs => k (v :: vs)
    | _ => False
def retV : List Value → Value
  | [v] => v
  | vs => .tuple vs.toArray

def envL : Nat → List Value → Env
  | _, [] => .base fun _ => undef
  | i, v :: r => (envL (i + 1) r).put i v

def retK (rs : List RV) (R : Value → H → Prop) (e : Env) (h : H) : Prop := rets e h rs fun vs => R (retV vs) h
def retX (rs : List RV) (R : Value → H → Prop) : SX → Env → H → Prop
  | .ret, e, h => retK rs R e h
  | .exit _, _, _ => False
/-- What must be shown of a function's small text, so that its call does what R says. -/
def dF (P : Program) (s : SC) (rs : List RV) (args : List Value) (h : H) (R : Value → H → Prop) : Prop :=
  dC P s (envL 0 args) h (retK rs R) (retX rs R)

end Go.Proofs.YtiabgojnljfmhaaGreat.Ov
