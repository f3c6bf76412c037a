/-
  WHAT IS SHOWN OF THE SMALL TEXT HOLDS OF THE CODE's RUN: rows of operations, branches, loops, and the call: 'Fn.of'. No condition: every statement is for every program.
-/
import Derived.Test.YtiabgojnljfmhaaGreatG
import Derived.StillTail
namespace Go.Proofs.YtiabgojnljfmhaaGreat.Ov

def compS (P : Program) (n : Nat) (ops : List Oper) (o : Oper) : Option S :=
  match compOp P o.op o.type with
  | none => none
  | some x =>
    match o.guard, o.dst with
    | none, none => some (.n x)
    | none, some d => if Nat.blt d n then some (.o d x) else none
    | some (j, want), dst =>
      match nth ops j with
      | none => none
      | some oj => match oj.dst, dst with
        | some s, none => some (.gn s want x)
        | some s, some d => if Nat.blt d n then some (.g s want d x) else none
        | none, _ => none
def compL (P : Program) (n : Nat) (ops : List Oper) : List Oper → Option (List S)
  | [] => some []
  | o :: r => match compS P n ops o, compL P n ops r with
    | some s, some l => some (s :: l)
    | _, _ => none

def S.wr : S → List Nat
  | .o d _ | .g _ _ d _ => [d]
  | _ => []
def PS.wr : PS → List Nat
  | .done | .stop => []
  | .take s p => s.wr ++ p.wr
  | .alt s p q => s.wr ++ p.wr ++ q.wr
def PH.wr : PH → List Nat
  | .done | .stop => []
  | .take s p => s.wr ++ p.wr
  | .alt _ s p q => s.wr ++ p.wr ++ q.wr
def SC.wr : SC → List Nat
  | .ops l => l.flatMap S.wr
  | .any p => p.wr
  | .held l p => l.flatMap S.wr ++ p.wr
  | .free pre hd tl => pre.map (·.1) ++ (hd.map (·.1) ++ tl.flatMap S.wr)
  | .seq a b => a.wr ++ b.wr
  | .cond _ a b => a.wr ++ b.wr
  | .block _ b => b.wr
  | .loop m _ => m
  | _ => []
def nub : List Nat → List Nat
  | [] => []
  | t :: r => bif mem t (nub r) then nub r else t :: nub r
theorem mem_nub (t : Nat) : ∀ l : List Nat, t ∈ l → t ∈ nub l := by
  intro l
  induction l with
  | nil => intro h; exact h
  | cons s r ih =>
    intro h
    simp only [nub]
    rcases List.mem_cons.1 h with rfl | h
    · cases hm : mem t (nub r) with
      | true => exact (mem_iff t _).1 hm
      | false => simp
    · cases hm : mem s (nub r) with
      | true => exact ih h
      | false => simp [ih h]

def S.so : S → SO
  | .o _ x | .n x | .g _ _ _ x | .gn _ _ x => x

def stillHead (P : Program) : List Oper → Nat
  | [] => 0
  | [_] => 0
  | o :: r => match compOp P o.op o.type with
    | some x => if x.still then stillHead P r + 1 else 0
    | none => 0

def alts (f : Nat → Option (S × PS)) : List Nat → Option PS
  | [] => some .stop
  | i :: r => match f i, alts f r with
    | some (s, p), some q => some (.alt s p q)
    | _, _ => none
def pureAt (P : Program) (ops : Array Oper) (i : Nat) : Bool :=
  match nth ops.toList i with
  | some o => match compOp P o.op o.type with
    | some x => x.pure
    | none => false
  | none => false
def planOf (P : Program) (n : Nat) (ops : Array Oper) : Nat → Array Bool → Option PS
  | 0, listed => match Region.ready .any ops listed with
    | [] => some .done
    | _ => none
  | f + 1, listed => match Region.ready .any ops listed with
    | [] => some .done
    | rs => match rs.find? (fun i => Region.free .any ops listed i && pureAt P ops i) with
      | some i => match nth ops.toList i with
        | some o => match compS P n ops.toList o, planOf P n ops f (listed.setIfInBounds i true) with
          | some s, some p => some (.take s p)
          | _, _ => none
        | none => none
      | none => alts (fun i => match nth ops.toList i with
        | some o => match compS P n ops.toList o, planOf P n ops f (listed.setIfInBounds i true) with
          | some s, some p => some (s, p)
          | _, _ => none
        | none => none) rs
/-! ### A region in which each operation but those at the end touches nothing that was there -/
/-- What operation i waits for. -/
def aft (ops : Array Oper) (i : Nat) : List Nat :=
  match nth ops.toList i with
  | some o => (o.after.toList.filter fun e => Region.binds .any e).map (·.on)
  | none => []
/-- All that those of S wait for, of those below j. -/
def clo (ops : Array Oper) : Nat → List Nat → List Nat
  | 0, S => S
  | j + 1, S => clo ops j (bif mem j S then aft ops j ++ S else S)
/-- Does it wait for all ahead of it? -/
def cov (ops : Array Oper) (k : Nat) : Bool := (List.range k).all fun i => mem i (clo ops k (aft ops k))
def tailAt (ops : Array Oper) : Nat → Nat
  | 0 => 0
  | k + 1 => bif cov ops k then tailAt ops k else k + 1
def dstAt (ops : Array Oper) (i : Nat) : Option Nat :=
  match nth ops.toList i with
  | some o => o.dst
  | none => none
def wrote (ops : Array Oper) (i t : Nat) : Bool :=
  match dstAt ops i with
  | some d => Nat.beq d t
  | none => false
def ent (P : Program) (ops : Array Oper) (i : Nat) : Option (Nat × SO × List Nat) :=
  match nth ops.toList i with
  | none => none
  | some o => match o.guard, o.dst, compOp P o.op o.type with
    | none, some d, some x => match x.tm with
      | some ts => some (d, x, ts)
      | none => none
    | _, _, _ => none
def clsOf (P : Program) (ops : Array Oper) : Nat → Nat → List Nat → Option (List (Nat × SO) × List (Nat × List Nat × SO))
  | 0, _, _ => some ([], [])
  | r + 1, i, hdD => match ent P ops i with
    | none => none
    | some (d, x, ts) => bif x.still && ts.all (fun t => !mem t hdD) then
        match clsOf P ops r (i + 1) hdD with
        | some (pre, hd) => some ((d, x) :: pre, hd)
        | none => none
      else match clsOf P ops r (i + 1) (d :: hdD) with
        | some (pre, hd) => some (pre, (d, nub (ts.filter fun t => mem t hdD), x) :: hd)
        | none => none
def ordB : List (Nat × SO) → Bool
  | [] => true
  | (d, x) :: r => x.still && (match x.tm with
      | some ts => !mem d ts && ts.all fun t => !mem t (r.map (·.1))
      | none => false) && !mem d (r.map (·.1)) && ordB r
def okF (P : Program) (n : Nat) (ops : Array Oper) (s : Nat) (pre : List (Nat × SO)) (hd : List (Nat × List Nat × SO)) : Bool :=
  ((List.range s).all fun i => match ent P ops i with
    | some (d, _, ts) => Nat.blt d n && ts.all (fun t => (List.range s).all fun j => !wrote ops j t || mem j (aft ops i)) && (List.range s).all (fun j => Nat.beq i j || !wrote ops j d)
    | none => false) &&
  ((List.range ops.size).all fun i => (aft ops i).all fun j => Nat.blt j i) &&
  (pre.all fun p => !mem p.1 (hd.map (·.1)) && match p.2.tm with
    | some ts => ts.all fun t => !mem t (hd.map (·.1))
    | none => false) &&
  (hd.all fun p => match p.2.2.tm with
    | some ts => ts.all (fun t => !mem t (hd.map (·.1)) || mem t p.2.1) && p.2.1.all (fun t => mem t ts && mem t (hd.map (·.1)))
    | none => false) &&
  ordB pre
def freeOf (P : Program) (n : Nat) (ops : Array Oper) (s : Nat) : Option SC :=
  match clsOf P ops s 0 [], compL P n ops.toList (ops.toList.drop s) with
  | some (pre, hd), some tl => bif okF P n ops s pre hd && Nat.ble s ops.size then some (.free pre hd tl) else none
  | _, _ => none
/-- Is the plan a small one? (What is left of b.) -/
def small (P : Program) (fst : Nat → Bool) (ops : Array Oper) : Nat → Nat → Array Bool → Option Nat
  | 0, b, _ => some b
  | _ + 1, 0, _ => none
  | f + 1, b + 1, listed => match Region.ready .any ops listed with
    | [] => some b
    | rs => match rs.find? (fun i => Region.free .any ops listed i && fst i) with
      | some i => small P fst ops f b (listed.setIfInBounds i true)
      | none => rs.foldl (fun a i => match a with
        | some b => small P fst ops f b (listed.setIfInBounds i true)
        | none => none) (some b)
def stillAt (P : Program) (ops : Array Oper) (i : Nat) : Bool :=
  match nth ops.toList i with
  | some o => match compOp P o.op o.type with
    | some x => x.still
    | none => false
  | none => false
/-- All of those that were read first are waited for. -/
def covL (P : Program) (ops : Array Oper) (lds : List Nat) (k : Nat) : Bool := !stillAt P ops k && lds.all fun i => mem i (clo ops ops.size (aft ops k))
def altsH (f : Nat → Option (Bool × S × PH)) : List Nat → Option PH
  | [] => some .stop
  | i :: r => match f i, altsH f r with
    | some (b, s, p), some q => some (.alt b s p q)
    | _, _ => none
/-- A plan; 'done': one that waits for all that was read first is listed. -/
def planH (P : Program) (n : Nat) (ops : Array Oper) (lds : List Nat) : Nat → Bool → Array Bool → Option PH
  | 0, _, listed => match Region.ready .any ops listed with
    | [] => some .done
    | _ => none
  | f + 1, dn, listed => match Region.ready .any ops listed with
    | [] => some .done
    | rs => match rs.find? (fun i => Region.free .any ops listed i && pureAt P ops i) with
      | some i => match nth ops.toList i with
        | some o => match compS P n ops.toList o, planH P n ops lds f dn (listed.setIfInBounds i true) with
          | some s, some p => some (.take s p)
          | _, _ => none
        | none => none
      | none => altsH (fun i => match nth ops.toList i with
        | some o => match compS P n ops.toList o, planH P n ops lds f (dn || covL P ops lds i) (listed.setIfInBounds i true) with
          | some s, some p => some (!(dn || covL P ops lds i), s, p)
          | _, _ => none
        | none => none) rs
/-- First what leaves the world as it is, as long as there is such a one; then a plan. -/
def holdOf (P : Program) (n : Nat) (ops : Array Oper) (lds : List Nat) : Nat → Array Bool → Option (List S × PH)
  | 0, listed => match planH P n ops lds 0 false listed with
    | some p => some ([], p)
    | none => none
  | f + 1, listed => match Region.ready .any ops listed with
    | [] => some ([], .done)
    | rs => match rs.find? (fun i => Region.free .any ops listed i && stillAt P ops i) with
      | some i => match nth ops.toList i with
        | some o => match compS P n ops.toList o, holdOf P n ops lds f (listed.setIfInBounds i true) with
          | some s, some (l, p) => bif pureAt P ops i || mem i lds then some (s :: l, p) else none
          | _, _ => none
        | none => none
      | none => match planH P n ops lds (f + 1) false listed with
        | some p => some ([], p)
        | none => none
/-- What is read first. -/
def ldsOf (P : Program) (ops : Array Oper) : Nat → Array Bool → List Nat
  | 0, _ => []
  | f + 1, listed => match (Region.ready .any ops listed).find? (fun i => Region.free .any ops listed i && stillAt P ops i) with
    | some i => bif pureAt P ops i then ldsOf P ops f (listed.setIfInBounds i true) else i :: ldsOf P ops f (listed.setIfInBounds i true)
    | none => []
def edgesB (ops : Array Oper) : Bool := (List.range ops.size).all fun i => (aft ops i).all fun j => Nat.blt j i
def smallH (P : Program) (ops : Array Oper) : Nat → Array Bool → Option Nat
  | 0, _ => some 0
  | f + 1, listed => match Region.ready .any ops listed with
    | [] => some 0
    | rs => match rs.find? (fun i => Region.free .any ops listed i && stillAt P ops i) with
      | some i => smallH P ops f (listed.setIfInBounds i true)
      | none => small P (pureAt P ops) ops (f + 1) 60 listed
/-- A region whose order is drawn: first what leaves the world as it is, then the rest in its one order; or a plan. -/
def compD (P : Program) (n : Nat) (ops : Array Oper) : Option SC :=
  if P.follows .mixedOrders then
    if Region.lexTailB .any ops (stillHead P ops.toList) then
      match compL P n ops.toList ops.toList with
      | some l => some (.ops l)
      | none => none
    else match small P (pureAt P ops) ops ops.size 24 (Array.replicate ops.size false) with
    | some _ =>
      if Region.noSelect ops then
        match planOf P n ops ops.size (Array.replicate ops.size false) with
        | some p => some (.any p)
        | none => none
      else none
    | none => match smallH P ops ops.size (Array.replicate ops.size false) with
      | some _ =>
        if Region.noSelect ops && edgesB ops then
          match holdOf P n ops (ldsOf P ops ops.size (Array.replicate ops.size false)) ops.size (Array.replicate ops.size false) with
          | some (l, p) => some (.held l p)
          | none => none
        else none
      | none => freeOf P n ops (tailAt ops ops.size)
  else none

def compC (P : Program) (n : Nat) : Code → Option SC
  | .skip => some .skip
  | .region _ ops draw => if draw then compD P n ops else match compL P n ops.toList ops.toList with
    | some l => some (.ops l)
    | none => none
  | .seq a b => match compC P n a, compC P n b with
    | some a, some b => some (.seq a b)
    | _, _ => none
  | .cond c a b => match compC P n a, compC P n b with
    | some a, some b => some (.cond (opX c) a b)
    | _, _ => none
  | .block i b => match compC P n b with
    | some b => some (.block i b)
    | none => none
  | .loop b => match compC P n b with
    | some b => some (.loop (nub b.wr) b)
    | none => none
  | .exit i => some (.exit i)
  | .ret => some .ret
  | _ => none

def Agree (e : Env) (a : Act) : Prop := ∀ t, a.tmps.getD t undef = e.get t

theorem Agree.eval {e : Env} {a : Act} (h : Agree e a) : a.eval = ρ e := by
  funext x
  cases x with
  | tmp t => exact h t
  | const v => rfl
  | global g => rfl
  | func f => rfl

theorem Agree.put {e : Env} {a : Act} (h : Agree e a) {d : Nat} (hd : d < a.tmps.size) (v : Value) : Agree (e.put d v) (a.put (some d) v) := by
  intro t
  simp only [Act.put, Env.get]
  have := h t
  simp only [Array.getD_eq_getD_getElem?] at this ⊢
  rw [Array.getElem?_setIfInBounds]
  by_cases ht : d = t
  · subst ht
    simp [hd]
  · have hb : Nat.beq d t = false := by
      cases hb : Nat.beq d t with
      | false => rfl
      | true => exact absurd (Nat.eq_of_beq_eq_true hb) ht
    rw [hb, if_neg ht]
    exact this
theorem put_get_ne {a : Act} {d t : Nat} (v : Value) (h : t ≠ d) : (a.put (some d) v).tmps.getD t undef = a.tmps.getD t undef := by
  simp only [Act.put, Array.getD_eq_getD_getElem?]
  rw [Array.getElem?_setIfInBounds, if_neg (fun h' => h h'.symm)]
theorem put_size (a : Act) (d : Option Nat) (v : Value) : (a.put d v).tmps.size = a.tmps.size := by cases d <;> simp [Act.put]
theorem put_defers (a : Act) (d : Option Nat) (v : Value) : (a.put d v).defers = a.defers := by cases d <;> simp [Act.put]

section
variable {P : Program}

theorem wp_of_raw {o : Oper} {a : Act} {w : World} {e : Env} {k : Value → H → Prop} {next : Act → World → Prop} {Q : Exit → Act → World → Prop} (ha : Agree e a)
    (hr : RawO false P (ρ e) o.op o.type w.heap k) (hk : ∀ v w', Rest w w' → k v w'.heap → next (a.put o.dst v) w') : o.wp P a w next Q := by
  obtain ⟨dst, op, type, pos, after, guard⟩ := o
  unfold Oper.wp
  rw [ha.eval]
  obtain ⟨nx, w', hrun, hrest, hn⟩ := hr w rfl
  have heq : execOp (ρ e) { dst := dst, op := op, type := type, pos := pos, after := after, guard := guard } = execOp (ρ e) { dst := none, op := op, type := type, pos := "", after := #[], guard := none } := by
    cases op <;> rfl
  rw [heq, hrun]
  cases nx with
  | value v => exact hk v w' hrest.rest hn
  | skip => exact hk undef w' hrest.rest hn.2
  | enter f args =>
    refine (hn.2.out w' rfl).mono ?_
    rintro en w'' ⟨v, rfl, hrest2, hv⟩
    exact hk v w'' (hrest.rest.trans hrest2) hv
  | _ => exact hn.elim

/-- What holds where a piece of code has been left. -/
def Post (a : Act) (w : World) (n : Nat) (wr : List Nat) (Kn : Env → H → Prop) (Kx : SX → Env → H → Prop) (x : Exit) (a' : Act) (w' : World) : Prop :=
  Rest w w' ∧ a'.defers = a.defers ∧ n ≤ a'.tmps.size ∧ (∀ t, t ∉ wr → a'.tmps.getD t undef = a.tmps.getD t undef) ∧
    ∃ e', Agree e' a' ∧ match x with
      | .normal => Kn e' w'.heap
      | .exit i => Kx (.exit i) e' w'.heap
      | .ret => Kx .ret e' w'.heap
      | _ => False

theorem Post.weak {a : Act} {w : World} {n : Nat} {wr wr' : List Nat} {Kn : Env → H → Prop} {Kx : SX → Env → H → Prop} {x : Exit} {a' : Act} {w' : World}
    (h : Post a w n wr Kn Kx x a' w') (hs : ∀ t, t ∈ wr → t ∈ wr') : Post a w n wr' Kn Kx x a' w' :=
  ⟨h.1, h.2.1, h.2.2.1, fun t ht => h.2.2.2.1 t fun hm => ht (hs t hm), h.2.2.2.2⟩

theorem Post.from {a a1 : Act} {w w1 : World} {n : Nat} {wr wr1 : List Nat} {Kn : Env → H → Prop} {Kx : SX → Env → H → Prop} {x : Exit} {a' : Act} {w' : World}
    (hr : Rest w w1) (hd : a1.defers = a.defers) (ht : ∀ t, t ∉ wr1 → a1.tmps.getD t undef = a.tmps.getD t undef)
    (h : Post a1 w1 n wr Kn Kx x a' w') : Post a w n (wr1 ++ wr) Kn Kx x a' w' :=
  ⟨hr.trans h.1, h.2.1.trans hd, h.2.2.1, fun t hn => by
    rw [List.mem_append, not_or] at hn
    rw [h.2.2.2.1 t hn.2, ht t hn.1], h.2.2.2.2⟩

theorem guarded_out {v : Value} {want : Bool} {run skip : Prop} (h : guarded v want run skip) :
    (v = .bool want ∧ run) ∨ (v ≠ .bool want ∧ skip) := by
  unfold guarded at h
  split at h
  · cases want
    · exact .inr ⟨by simp, h⟩
    · exact .inl ⟨rfl, h⟩
  · cases want
    · exact .inl ⟨rfl, h⟩
    · exact .inr ⟨by simp, h⟩
  · exact .inr ⟨by simp, h⟩
  · exact h.elim

theorem wanted_guard {ops : List Oper} {o oj : Oper} {a : Act} {e : Env} {j s : Nat} {want : Bool} (ha : Agree e a) (hg : o.guard = some (j, want)) (hj : nth ops j = some oj) (hs : oj.dst = some s) :
    Region.wanted o (yielded ops.toArray a.tmps) = true ↔ e.get s = .bool want := by
  have hy : yielded ops.toArray a.tmps j = (match a.tmps[s]? with | some (.bool b) => some b | _ => none) := by
    unfold yielded
    rw [nth_eq] at hj
    simp only [List.getElem?_toArray, hj, Option.bind_some, hs]
    rfl
  have hv := ha s
  rw [Array.getD_eq_getD_getElem?] at hv
  simp only [Region.wanted, hg, hy]
  rw [← hv]
  cases ht : a.tmps[s]? with
  | none => simp [undef]
  | some v => cases v <;> simp

theorem dL_sound {n : Nat} (ops : List Oper) (Kn : Env → H → Prop) (Kx : SX → Env → H → Prop) : ∀ (l : List Oper) (sl : List S) (e : Env) (a : Act) (w : World), compL P n ops l = some sl → Agree e a →
    n ≤ a.tmps.size → dL P sl e w.heap Kn → wpList P ops.toArray (Post a w n (sl.flatMap S.wr) Kn Kx) l a w := by
  intro l
  induction l with
  | nil =>
    intro sl e a w hc ha hn hd
    simp only [compL, Option.some.injEq] at hc
    subst hc
    exact ⟨Rest.refl w, rfl, hn, fun _ _ => rfl, e, ha, hd⟩
  | cons o r ih =>
    intro sl e a w hc ha hn hd
    simp only [compL] at hc
    cases hs : compS P n ops o with
    | none => rw [hs] at hc; cases hc
    | some s =>
    cases hl : compL P n ops r with
    | none => rw [hs, hl] at hc; cases hc
    | some rl =>
    rw [hs, hl] at hc
    injection hc with hc
    subst hc
    -- the rest, behind this operation
    have next : ∀ (e1 : Env) (a1 : Act) (w1 : World), Rest w w1 → a1.defers = a.defers → a1.tmps.size = a.tmps.size → (∀ t, t ∉ s.wr → a1.tmps.getD t undef = a.tmps.getD t undef) → Agree e1 a1 →
        dL P rl e1 w1.heap Kn → wpList P ops.toArray (Post a w n ((s :: rl).flatMap S.wr) Kn Kx) r a1 w1 := by
      intro e1 a1 w1 hr1 hd1 hs1 ht1 ha1 hk1
      have := ih rl e1 a1 w1 hl ha1 (by omega) hk1
      have mono : ∀ (l : List Oper) (Q Q' : Exit → Act → World → Prop) (a : Act) (w : World), (∀ x a w, Q x a w → Q' x a w) → wpList P ops.toArray Q l a w → wpList P ops.toArray Q' l a w := by
        intro l
        induction l with
        | nil => intro Q Q' a w hQ h; exact hQ _ _ _ h
        | cons o l ih2 =>
          intro Q Q' a w hQ h
          have hup : o.wp P a w (wpList P ops.toArray Q l) Q → o.wp P a w (wpList P ops.toArray Q' l) Q' := by
            intro h
            unfold Oper.wp at *
            generalize (execOp a.eval o).run P w = rr at *
            cases rr with
            | ok n w' =>
              cases n <;> simp only [Oper.upon] at h ⊢ <;>
                first
                  | exact ih2 _ _ _ _ hQ h
                  | exact Calls.mono h (fun e w'' he => by
                      cases e <;> first
                        | exact ih2 _ _ _ _ hQ he
                        | exact hQ _ _ _ he
                        | exact (let ⟨a0, w0, hq⟩ := he; ⟨a0, w0, hQ _ _ _ hq⟩))
                  | exact Rows.mono h (fun _ _ he => ih2 _ _ _ _ hQ he)
            | halt x w' => cases x <;> simp only [Oper.upon] at h ⊢ <;> first | exact h | exact hQ _ _ _ h
          unfold wpList at h ⊢
          split
          · rename_i hw
            rw [if_pos hw] at h
            exact h.imp hup (fun ⟨h1, a0, w0, hq⟩ => ⟨h1, a0, w0, hQ _ _ _ hq⟩)
          · rename_i hw
            rw [if_neg hw] at h
            exact ih2 _ _ _ _ hQ h
      refine mono r _ _ a1 w1 (fun x a' w' h => ?_) this
      rw [List.flatMap_cons]
      exact Post.from hr1 hd1 ht1 h
    unfold compS at hs
    cases hx : compOp P o.op o.type with
    | none => rw [hx] at hs; cases hs
    | some x =>
    rw [hx] at hs
    simp only [] at hs
    -- how it runs
    have run : ∀ (k : Value → H → Prop) (nx : Act → World → Prop), vO P e w.heap k x → (∀ v w', Rest w w' → k v w'.heap → nx (a.put o.dst v) w') → o.wp P a w nx (Post a w n ((s :: rl).flatMap S.wr) Kn Kx) :=
      fun k nx hv hk => wp_of_raw ha (op_all (st := false) (fun h => by cases h) hx hv) hk
    unfold wpList
    cases hg : o.guard with
    | none =>
      rw [hg] at hs
      rw [if_pos (by simp [Region.wanted, hg])]
      cases hdst : o.dst with
      | none =>
        rw [hdst] at hs
        injection hs with hs
        subst hs
        refine .inl (run _ _ hd fun v w' hr hk => ?_)
        rw [hdst]
        exact next e a w' hr rfl rfl (fun _ _ => rfl) ha hk
      | some d =>
        rw [hdst] at hs
        simp only [] at hs
        split at hs
        · rename_i hb
          injection hs with hs
          subst hs
          have hlt : @LT.lt Nat _ d n := Nat.le_of_ble_eq_true hb
          refine .inl (run _ _ hd fun v w' hr hk => ?_)
          rw [hdst]
          exact next _ _ w' hr (put_defers _ _ _) (put_size _ _ _) (fun t ht => put_get_ne v (by simpa [S.wr] using ht)) (ha.put (Nat.lt_of_lt_of_le hlt hn) v) hk
        · cases hs
    | some gw =>
      obtain ⟨j, want⟩ := gw
      rw [hg] at hs
      simp only [] at hs
      cases hj : nth ops j with
      | none => rw [hj] at hs; cases hs
      | some oj =>
      rw [hj] at hs
      simp only [] at hs
      cases hjd : oj.dst with
      | none => rw [hjd] at hs; cases hs
      | some sl =>
      rw [hjd] at hs
      have hw := wanted_guard (o := o) ha hg hj hjd
      cases hdst : o.dst with
      | none =>
        rw [hdst] at hs
        injection hs with hs
        subst hs
        simp only [dL] at hd
        rcases guarded_out hd with ⟨hv, hd⟩ | ⟨hv, hd⟩
        · rw [if_pos (hw.2 hv)]
          refine .inl (run _ _ hd fun v w' hr hk => ?_)
          rw [hdst]
          exact next e a w' hr rfl rfl (fun _ _ => rfl) ha hk
        · rw [if_neg (fun h => hv (hw.1 h))]
          exact next e a w (Rest.refl w) rfl rfl (fun _ _ => rfl) ha hd
      | some d =>
        rw [hdst] at hs
        simp only [] at hs
        split at hs
        · rename_i hb
          injection hs with hs
          subst hs
          have hlt : @LT.lt Nat _ d n := Nat.le_of_ble_eq_true hb
          simp only [dL] at hd
          rcases guarded_out hd with ⟨hv, hd⟩ | ⟨hv, hd⟩
          · rw [if_pos (hw.2 hv)]
            refine .inl (run _ _ hd fun v w' hr hk => ?_)
            rw [hdst]
            exact next _ _ w' hr (put_defers _ _ _) (put_size _ _ _) (fun t ht => put_get_ne v (by simpa [S.wr] using ht)) (ha.put (Nat.lt_of_lt_of_le hlt hn) v) hk
          · rw [if_neg (fun h => hv (hw.1 h))]
            exact next _ _ w (Rest.refl w) (put_defers _ _ _) (put_size _ _ _) (fun t ht => put_get_ne _ (by simpa [S.wr] using ht)) (ha.put (Nat.lt_of_lt_of_le hlt hn) _) hd
        · cases hs
end
end Go.Proofs.YtiabgojnljfmhaaGreat.Ov
