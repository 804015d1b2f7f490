/- A function's code, compiled; what is to be shown of it, as conditions. -/
import Derived.Test.YtpiicncihccheaaGreatDoorXO
namespace Go.XW
open Go.RowKit

/-! ### The small language -/
/-- One operation, by its class; rc, rv: a call that changes nothing. -/
inductive A1 where
  | p (o : OP)
  | r (o : OR)
  | w (o : OW)
  | l (sz len : Nat) (zs : List Value) (parts : List (Nat × Nat × Bool × Operand))
  | rc (f : FuncId) (args : List Operand)
  | rv (g : Operand) (args : List Operand)
  | x (o : OX)
  deriving Inhabited
inductive S where
  | done
  | hook (id : Nat) (r : S)
  | op (d : Option Nat) (a : A1) (r : S)
  | g (t : Nat) (want : Bool) (d : Option Nat) (a : A1) (r : S)
  | ite (c : Operand) (a b : S)
  | block (id : Nat) (b : S)
  | loop (b : S)
  | sq (n : Nat) (a r : S)
  | rng (g : Operand) (ps : List Nat) (a b : S)
  | bad
  | exit (id : Nat)
  | ret
  deriving Inhabited
inductive Ex where
  | normal | ret | exit (i : Nat)

def put (d : Option Nat) (v : V) (f : Fr) : Fr :=
  match d with
  | some d => (d, v) :: f
  | none => f
def constE : Value → Option V
  | .int k n => some (.v (.int k n))
  | .bool b => some (.v (.bool b))
  | .string s => some (.v (.string s))
  | .agg us => some (.agg (us.toList.map .v))
  | .tuple us => some (.tup (us.toList.map .v))
  | x => some (.v x)
theorem constE_eq (x : Value) : constE x = some (constV x) := by cases x <;> rfl
def ev (f : Fr) : Operand → Option V
  | .tmp n => look n f
  | .const x => constE x
  | .global g => some (.v (.pointer (some ⟨g, 0, none⟩)))
  | .func g => some (.v (.func (.func g) #[] #[]))

/-! ### Conditions -/
/-- A call that changes nothing. -/
inductive CallR (P : Program) (f : FuncId) (vs : List V) (h : Hp) (K : V → Prop) : Prop
  | mk (v : V) : VCalls P f vs h (fun v' h' => v' = v ∧ h' = h) → K v → CallR P f vs h K
def callRK (P : Program) (g : V) (args : List V) (h : Hp) (K : V → Prop) : Prop :=
  match g with
  | .fn (.func f) a b => CallR P f (a ++ args ++ b) h K
  | .v (.func (.func f) a b) => CallR P f (a.toList.map .v ++ args ++ b.toList.map .v) h K
  | _ => False
def op1 (P : Program) (KP : List PanicEntry → Hp → Prop) (a : A1) (σ : Operand → Option V) (h : Hp) (K : V → Hp → Prop) : Prop :=
  match a with
  | .p o => ovP o σ fun v => K v h
  | .r o => ovR o σ h fun v => K v h
  | .w o => ovW P o σ h K KP
  | .l sz len zs parts => buildK σ parts ((List.replicate len (zs.map .v)).flatten) fun cs => chunksK sz len cs fun es => K (.row sz es) h
  | .rc f args => onL σ args fun vs => CallR P f vs h fun v => K v h
  | .rv g args => on (σ g) fun vg => onL σ args fun vs => callRK P vg vs h fun v => K v h
  | .x o => ovX P o σ h K KP
/-- How a view changes where block k, whose elements are these, is frozen. -/
inductive VFz (k sz : Nat) (es : List (List V)) : V → V → Prop
  | same (x : V) : VFz k sz es x x
  | osl (off n : Nat) : off + n ≤ es.length → VFz k sz es (.osl sz k off n) (.row sz ((es.drop off).take n))
  | all (n : Nat) : es.length = n → VFz k sz es (.osl sz k 0 n) (.row sz es)
  | ptr (i j : Nat) (e : List V) : es[i]? = some e → VFz k sz es (.ptr sz k i j) (.adr (e.drop j))
  | agg0 : VFz k sz es (.agg []) (.agg [])
  | agg (x y : V) (xs ys : List V) : VFz k sz es x y → VFz k sz es (.agg xs) (.agg ys) → VFz k sz es (.agg (x :: xs)) (.agg (y :: ys))
  | tup0 : VFz k sz es (.tup []) (.tup [])
  | tup (x y : V) (xs ys : List V) : VFz k sz es x y → VFz k sz es (.tup xs) (.tup ys) → VFz k sz es (.tup (x :: xs)) (.tup (y :: ys))
  | ifc (t : TypeId) (x y : V) : VFz k sz es x y → VFz k sz es (.ifc t x) (.ifc t y)
  | fn (f : Fn) (a b b2 : List V) : VFz k sz es (.agg b) (.agg b2) → VFz k sz es (.fn f a b) (.fn f a b2)
/-- What the frame holds may be seen as less. -/
def Sub1 (f f2 : Fr) : Prop := ∀ n v, look n f2 = some v → ∃ u, look n f = some u ∧ VLe u v
/-- A step of views: whatever world fits the blocks h fits h2 as well, and what R says of views carries over. -/
def HS (R : V → V → Prop) (h h2 : Hp) : Prop := ∀ (base : World) (F : Fro) (w : World), Sim base F h w → ∃ F', FLe F F' ∧ Sim base F' h2 w ∧ ∀ v v2, R v v2 → ∀ u, Rep F v u → Rep F' v2 u
inductive LR (R : V → V → Prop) : List V → List V → Prop
  | nil : LR R [] []
  | cons (x y : V) (xs ys : List V) : R x y → LR R xs ys → LR R (x :: xs) (y :: ys)
inductive ER (R : V → V → Prop) : List (List V) → List (List V) → Prop
  | nil : ER R [] []
  | cons (x y : List V) (xs ys : List (List V)) : LR R x y → ER R xs ys → ER R (x :: xs) (y :: ys)
inductive HR (R : V → V → Prop) : Hp → Hp → Prop
  | same (h : Hp) : HR R h h
  | blk (k sz : Nat) (es es2 : List (List V)) (h h2 : Hp) : ER R es es2 → HR R h h2 → HR R ((k, .blk sz es) :: h) ((k, .blk sz es2) :: h2)
  | skip (x : Nat × HO) (h h2 : Hp) : HR R h h2 → HR R (x :: h) (x :: h2)
inductive Wk (I : Fr → Hp → Prop) : Fr → Hp → Prop
  | gen (R : V → V → Prop) (f f2 : Fr) (h h2 : Hp) : HS R h h2 → (∀ n v, look n f2 = some v → ∃ u, look n f = some u ∧ R u v) → Wk I f2 h2 → Wk I f h
  | now (f : Fr) (h : Hp) : I f h → Wk I f h
  | sub (f f2 : Fr) (h : Hp) : Sub1 f f2 → Wk I f2 h → Wk I f h
  | less (f : Fr) (h h2 : Hp) : h2.Sublist h → Wk I f h2 → Wk I f h
  | perm (f : Fr) (h h2 : Hp) : h2.Perm h → Wk I f h2 → Wk I f h
  | name (sz : Nat) (f : Fr) (h : Hp) : (∀ k, Wk I f ((k, .blk sz []) :: h)) → Wk I f h
  | fz (n : Nat) (u v : V) (f : Fr) (h1 h2 : Hp) (k sz : Nat) (es : List (List V)) : look n f = some u → VFz k sz es u v → Wk I ((n, v) :: f) (h1 ++ h2) → Wk I f (h1 ++ (k, .blk sz es) :: h2)
/-- A piece's number, and what holds ahead of it. -/
inductive Hook (id : Nat) (I : Fr → Hp → Prop) (f : Fr) (h : Hp) : Prop
  | mk : Wk I f h → Hook id I f h
def withN (K : Fr → Hp → Prop) (Q : Ex → Fr → Hp → Prop) : Ex → Fr → Hp → Prop
  | .normal => K
  | .ret => Q .ret
  | .exit i => Q (.exit i)
def blkQ (id : Nat) (K : Fr → Hp → Prop) (Q : Ex → Fr → Hp → Prop) : Ex → Fr → Hp → Prop
  | .normal => K
  | .ret => Q .ret
  | .exit i => bif Nat.beq i id then K else Q (.exit i)
/-- A piece and what stands behind it: the ways through the piece may be brought together. -/
inductive SeqP (n : Nat) (A : (Fr → Hp → Prop) → Prop) (C : Fr → Hp → Prop) : Prop
  | dup : A C → SeqP n A C
  | join (I : Fr → Hp → Prop) : A (Wk I) → (∀ f h, I f h → C f h) → SeqP n A C
inductive LoopP (W : (Ex → Fr → Hp → Prop) → Fr → Hp → Prop) (Q : Ex → Fr → Hp → Prop) (f : Fr) (h : Hp) : Prop
  | mk {α : Type} (I : α → Fr → Hp → Prop) (μ : α → Nat) : Wk (fun f h => ∃ x, I x f h) f h → (∀ x f h, I x f h → W (withN (Wk fun f h => ∃ y, I y f h ∧ μ y < μ x) Q) f h) → LoopP W Q f h
def boolK (x : Option V) (K : Bool → Prop) : Prop :=
  match x with
  | some (.v (.bool b)) => K b
  | _ => False
/-- A guard that was itself left out leaves out. -/
def gK (x : Option V) (K0 : Prop) (K : Bool → Prop) : Prop :=
  match x with
  | some (.v (.bool b)) => K b
  | some (.v (.tuple _)) => K0
  | _ => False
/-! ### Ranges over a function -/
def isN : Ex → Bool
  | .normal => true
  | _ => false
def RdA : Ex → Prop → Prop
  | .normal, p => p
  | _, _ => False
/-- The loop's record lies in the heap; what holds of the rest. -/
inductive Behind (k : Nat) (o : HO) (K : Hp → Prop) (h : Hp) : Prop
  | mk (h2 : Hp) : h.Perm ((k, o) :: h2) → K h2 → Behind k o K h
def setPs : List Nat → List V → Fr → Fr
  | p :: ps, x :: xs, f => setPs ps xs ((p, x) :: f)
  | _, _, f => f
def callF (P : Program) (vg : V) (args : List V) (h : Hp) (R : Hp → Prop) : Prop :=
  match vg with
  | .fn (.func f) a b => VCalls P f (a ++ args ++ b) h fun _ h' => R h'
  | .v (.func (.func f) a b) => VCalls P f (a.toList.map .v ++ args ++ b.toList.map .v) h fun _ h' => R h'
  | _ => False
/-- The function that is ranged over is called with a yield of which nothing is known but what its rounds do. -/
inductive RngP (P : Program) (KP : List PanicEntry → Hp → Prop) (n : Nat) (W : Nat → HO → HO → List V → Hp → (Ex → Hp → Prop) → Prop) (vg : V) (h : Hp) (K : Ex → Hp → Prop) : Prop
  | mk : (∀ c h, ¬ KP c h) → (∀ (k : Nat) (lp : Ex → HO) (lb : HO), (∀ (xs : List V) (h1 : Hp) (R : V → Hp → Prop), xs.length = n → W k (lp .normal) lb xs h1 (fun e h2 => R (vbool (isN e)) ((k, lp e) :: h2)) → YCalls P k xs ((k, lp .normal) :: h1) R) →
      callF P vg [.yld k] ((k, lp .normal) :: h) fun h' => ∃ e, Behind k (lp e) (K e) h') → RngP P KP n W vg h K
def wp (P : Program) (KP : List PanicEntry → Hp → Prop) : S → (Ex → Fr → Hp → Prop) → Fr → Hp → Prop
  | .done, Q, f, h => Q .normal f h
  | .hook id r, Q, f, h => Hook id (fun f h => wp P KP r Q f h) f h
  | .op d a r, Q, f, h => op1 P KP a (ev f) h fun v h' => wp P KP r Q (put d v f) h'
  | .g t want d a r, Q, f, h => gK (look t f) (wp P KP r Q (put d (.v undef) f) h) fun b =>
    bif want then Br b (op1 P KP a (ev ((t, vbool true) :: f)) h fun v h' => wp P KP r Q (put d v ((t, vbool true) :: f)) h') (wp P KP r Q (put d (.v undef) ((t, vbool false) :: f)) h)
    else Br b (wp P KP r Q (put d (.v undef) ((t, vbool true) :: f)) h) (op1 P KP a (ev ((t, vbool false) :: f)) h fun v h' => wp P KP r Q (put d v ((t, vbool false) :: f)) h')
  | .ite c a b, Q, f, h => boolK (ev f c) fun t => Br t (wp P KP a Q f h) (wp P KP b Q f h)
  | .block id b, Q, f, h => wp P KP b (blkQ id (Q .normal) Q) f h
  | .sq n a r, Q, f, h => SeqP n (fun K => wp P KP a (withN K Q) f h) (fun f h => wp P KP r Q f h)
  | .loop b, Q, f, h => LoopP (fun Q f h => wp P KP b Q f h) Q f h
  | .rng g ps a b, Q, f, h => on (ev f g) fun vg => RngP P KP ps.length (fun k lr lb xs h1 K =>
      wp P KP a (fun e f1 h1 => RdA e (Wk (fun f1 h1 => Behind k lr (fun h2 => wp P KP b (fun e f2 h2 => Wk (fun _ h2 => Behind k lb (K e) h2) f2 h2) f1 ((k, lb) :: h2)) h1) f1 h1)) (setPs ps xs f) ((k, lr) :: h1)) vg h fun e h2 => Q e f h2
  | .bad, _, _, _ => False
  | .exit i, Q, f, h => Q (.exit i) f h
  | .ret, Q, f, h => Q .ret f h

/-! ### Compiling -/
def isTmp (t : Nat) : Operand → Bool
  | .tmp n => Nat.beq n t
  | _ => false
/-- Is a row literal handed on in its region only to be read? -/
def handedOn (ops : List Oper) (d : Option Nat) : Bool :=
  match d with
  | none => false
  | some t => ops.any fun o => match o.op with
    | .call ⟨.builtin .append, args, _⟩ => match args.toList with
      | [_, y] => isTmp t y
      | _ => false
    | .call ⟨.value _, args, _⟩ => args.toList.any (isTmp t)
    | _ => false
/-- rd: calls are taken as those that change nothing. -/
def comp1 (P : Program) (rd : Bool) (ops : List Oper) (o : Oper) : Option A1 :=
  match compX P o.op with
  | some x => some (.x x)
  | none => match compP P o.op with
  | some p => some (.p p)
  | none => match compR P o.op with
    | some p => some (.r p)
    | none => match compW P (!handedOn ops o.dst) o.op with
      | some (.call f args) => if rd then some (.rc f args) else some (.w (.call f args))
      | some (.callv g args) => if rd then some (.rv g args) else some (.w (.callv g args))
      | some (.lit false sz len zs parts) => some (.l sz len zs parts)
      | some p => some (.w p)
      | none => none
def dstOk (N : Nat) (d : Option Nat) : Bool :=
  match d with
  | some d => Nat.blt d N
  | none => true
def cls : A1 → Nat
  | .p _ => 0
  | .r _ => 1
  | .w _ => 2
  | .l _ _ _ _ => 0
  | .rc _ _ => 1
  | .rv _ _ => 1
  | .x o => clsX o
/-- The operations of a region, one by one, with what guards them. -/
def regL (P : Program) (N : Nat) (rd : Bool) (ops : List Oper) : List Oper → Option (List (Option (Nat × Bool) × Option Nat × A1))
  | [] => some []
  | o :: rest => match comp1 P rd ops o, regL P N rd ops rest with
    | some a, some r => if dstOk N o.dst then match o.guard with
      | none => some ((none, o.dst, a) :: r)
      | some (j, want) => match (ops[j]?).bind (·.dst) with
        | some t => if o.dst = some t then none else some ((some (t, want), o.dst, a) :: r)
        | none => none
      else none
    | _, _ => none
def regS : List (Option (Nat × Bool) × Option Nat × A1) → S → S
  | [], r => r
  | (none, d, a) :: l, r => .op d a (regS l r)
  | (some (t, want), d, a) :: l, r => .g t want d a (regS l r)
/-- Of each operation those that it hangs on, by the direct ones. -/
def certD (l : List Oper) : List (List Nat) :=
  (List.range l.length).foldl (fun acc j => acc ++ [((l[j]?).map fun o => (directs o).foldl (fun s k => if k < j then s ++ (k :: (acc.getD k []).filter fun i => !s.contains i) else s) []).getD []]) []
def ordOf (l : List (Option (Nat × Bool) × Option Nat × A1)) : List (Nat × Nat) := (l.map fun x => cls x.2.2).zipIdx.map fun x => (x.2, x.1)
def regC (P : Program) (N : Nat) (ops : List Oper) (draw : Bool) : Option (List (Option (Nat × Bool) × Option Nat × A1)) :=
  if plainL ops then
    if draw then
      if P.follows .mixedOrders then
        match regL P N false ops ops with
        | some l => if chkAll ops (certD ops) (ordOf l) then some l else match regL P N true ops ops with
          | some l => if chkAll ops (certD ops) (ordOf l) then some l else none
          | none => none
        | none => none
      else none
    else regL P N false ops ops
  else none
def sqS (n : Nat) (a r : S) : S :=
  match r with
  | .done => a
  | _ => .sq n a r
/-- The number of the first region. -/
def firstId : Code → Nat
  | .region id _ _ => id
  | .seq a _ => firstId a
  | .block _ b => firstId b
  | .loop b => firstId b
  | _ => 0
def isSeq : Code → Bool
  | .seq _ _ => true
  | _ => false
def comp (P : Program) (N : Nat) : Bool → Code → S → Option S
  | _, .skip, r => some r
  | rg, .seq a b, r => match comp P N rg b r with
    | some r' => if isSeq a then match comp P N rg a .done with
        | some a' => some (sqS (firstId a) a' r')
        | none => none
      else comp P N rg a r'
    | none => none
  | _, .region id ops draw, r => match regC P N ops.toList draw with
    | some l => some (.hook id (regS l r))
    | none => none
  | rg, .cond c a b, r => match comp P N rg a .done, comp P N rg b .done with
    | some a', some b' => some (sqS 0 (.ite c a' b') r)
    | _, _ => none
  | rg, .block id b, r => match comp P N rg b .done with
    | some b' => some (sqS (firstId b) (.block id b') r)
    | none => none
  | rg, .loop b, _ => match comp P N rg b .done with
    | some b' => some (.loop b')
    | none => none
  | rg, .rangeFunc g ps a b, r => if rg && ps.toList.all (Nat.blt · N) then match comp P N false a .done, comp P N false b .done with
      | some a', some b' => some (sqS 0 (.rng g ps.toList a' b') r)
      | _, _ => none
    else none
  | _, .refuse _, _ => some .bad
  | _, .exit id, _ => some (.exit id)
  | _, .ret, _ => some .ret
  | _, _, _ => none
end Go.XW
