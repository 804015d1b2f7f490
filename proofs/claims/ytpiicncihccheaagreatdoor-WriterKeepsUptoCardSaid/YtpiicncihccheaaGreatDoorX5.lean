/- The operations that look at no block of the call's own: compiled, told as conditions, shown against the machine. -/
import Derived.Test.YtpiicncihccheaaGreatDoorX4
set_option linter.unusedVariables false
namespace Go.XW
open Go.RowKit

inductive OP where
  | mv (x : Operand)
  | pick (c a b : Operand)
  | bin (op : BinOp) (x y : Operand)
  | binb (op : BinOp) (x y : Operand)
  | not (x : Operand)
  | neg (x : Operand)
  | toInt (k : IntKind) (x : Operand)
  | lens (x : Operand)
  | lenr (x : Operand)
  | mx (b : Bool) (x y : Operand)
  | sidx (x i : Operand)
  | ssl (x : Operand) (lo hi : Option Operand)
  | ext (x : Operand) (i : Nat)
  | fld (x : Operand) (o sz : Nat) (agg : Bool)
  | fad (x : Operand) (o : Nat)
  | nilc (x : Operand)
  | mkfn (f : Fn) (first cap : List Operand)
  | build (zs : List Value) (parts : List (Nat × Nat × Bool × Operand))
  | mkif (t : TypeId) (x : Operand)
  | slc (sz : Nat) (x : Operand) (lo hi mx : Option Operand)
  | iad (sz : Nat) (x i : Operand)
  | nilq (d : TypeDesc) (neg : Bool) (x : Operand)
  deriving Inhabited

/-! ### The conditions -/
def on (x : Option V) (K : V → Prop) : Prop :=
  match x with
  | some v => K v
  | none => False
theorem on_get {x : Option V} {K : V → Prop} (h : on x K) : ∃ v, x = some v ∧ K v := by
  cases x with
  | none => exact h.elim
  | some v => exact ⟨v, rfl, h⟩
def onL (σ : Operand → Option V) : List Operand → (List V → Prop) → Prop
  | [], K => K []
  | x :: xs, K => on (σ x) fun v => onL σ xs fun vs => K (v :: vs)
theorem onL_get {σ : Operand → Option V} : ∀ {xs : List Operand} {K : List V → Prop}, onL σ xs K → ∃ vs, (∀ ρ : Operand → V, (∀ x v, σ x = some v → ρ x = v) → xs.map ρ = vs) ∧ K vs
  | [], K, h => ⟨[], fun _ _ => rfl, h⟩
  | x :: xs, K, h => by
    obtain ⟨v, h1, h2⟩ := on_get h
    obtain ⟨vs, h3, h4⟩ := onL_get h2
    exact ⟨v :: vs, fun ρ hρ => by rw [List.map_cons, h3 ρ hρ, hρ _ _ h1], h4⟩
def skipK : List V → Nat → (List V → Prop) → Prop
  | cs, 0, K => K cs
  | _ :: cs, n + 1, K => skipK cs n K
  | [], _ + 1, _ => False
theorem skipK_get : ∀ {cs : List V} {n : Nat} {K : List V → Prop}, skipK cs n K → n ≤ cs.length ∧ K (cs.drop n)
  | cs, 0, K, h => by cases cs <;> exact ⟨Nat.zero_le _, h⟩
  | c :: cs, n + 1, K, h => by have := skipK_get (cs := cs) (n := n) h; exact ⟨by simp; omega, by simpa using this.2⟩
  | [], n + 1, K, h => h.elim
def takeK : List V → Nat → (List V → Prop) → Prop
  | _, 0, K => K []
  | c :: cs, n + 1, K => takeK cs n fun r => K (c :: r)
  | [], _ + 1, _ => False
theorem takeK_get : ∀ {cs : List V} {n : Nat} {K : List V → Prop}, takeK cs n K → n ≤ cs.length ∧ K (cs.take n)
  | cs, 0, K, h => by cases cs <;> exact ⟨Nat.zero_le _, h⟩
  | c :: cs, n + 1, K, h => by have := takeK_get (cs := cs) (n := n) h; exact ⟨by simp; omega, by simpa using this.2⟩
  | [], n + 1, K, h => h.elim
def exactK : List V → Nat → (List V → Prop) → Prop
  | [], 0, K => K []
  | c :: cs, n + 1, K => exactK cs n fun r => K (c :: r)
  | _, _, _ => False
theorem exactK_get : ∀ {cs : List V} {n : Nat} {K : List V → Prop}, exactK cs n K → cs.length = n ∧ K cs
  | [], 0, K, h => ⟨rfl, h⟩
  | c :: cs, n + 1, K, h => by have := exactK_get (cs := cs) (n := n) h; exact ⟨by simp [this.1], this.2⟩
  | [], n + 1, K, h => h.elim
  | _ :: _, 0, K, h => h.elim
def setK : List V → Nat → List V → (List V → Prop) → Prop
  | cs, 0, [], K => K cs
  | _ :: cs, 0, y :: ys, K => setK cs 0 ys fun r => K (y :: r)
  | c :: cs, n + 1, ys, K => setK cs n ys fun r => K (c :: r)
  | [], _, _, _ => False
theorem setK_get : ∀ {cs : List V} {n : Nat} {ys : List V} {K : List V → Prop}, setK cs n ys K → n + ys.length ≤ cs.length ∧ K (put1 cs n ys)
  | [], 0, [], K, h => by exact ⟨Nat.le_refl _, by simpa [put1, setK] using h⟩
  | c :: cs, 0, [], K, h => by exact ⟨Nat.zero_le _, by simpa [put1, setK] using h⟩
  | c :: cs, 0, y :: ys, K, h => by
    have := setK_get (cs := cs) (n := 0) (ys := ys) h
    refine ⟨by simp; omega, ?_⟩
    simpa [put1] using this.2
  | c :: cs, n + 1, ys, K, h => by
    have := setK_get (cs := cs) (n := n) (ys := ys) h
    refine ⟨by simp; omega, ?_⟩
    have h2 := this.2
    simp only [put1, List.take_succ_cons, List.cons_append] at h2 ⊢
    rw [show n + 1 + ys.length = (n + ys.length) + 1 by omega, List.drop_succ_cons]
    exact h2
  | [], 0, _ :: _, K, h => h.elim
  | [], n + 1, _, K, h => h.elim
theorem setK_re : ∀ {cs : List V} {n : Nat} {ys : List V} {K K' : List V → Prop}, setK cs n ys K → K' (put1 cs n ys) → setK cs n ys K'
  | [], 0, [], K, K', h, k => by simpa [put1, setK] using k
  | c :: cs, 0, [], K, K', h, k => by simpa [put1, setK] using k
  | c :: cs, 0, y :: ys, K, K', h, k => setK_re (cs := cs) (n := 0) (ys := ys) h (by simpa [put1] using k)
  | c :: cs, n + 1, ys, K, K', h, k => setK_re (cs := cs) (n := n) (ys := ys) h (by
    simp only [put1, List.take_succ_cons, List.cons_append] at k ⊢
    rw [show n + 1 + ys.length = (n + ys.length) + 1 by omega, List.drop_succ_cons] at k
    exact k)
  | [], 0, _ :: _, K, _, h, _ => h.elim
  | [], n + 1, _, K, _, h, _ => h.elim
theorem exactK_re : ∀ {cs : List V} {n : Nat} {K K' : List V → Prop}, exactK cs n K → K' cs → exactK cs n K'
  | [], 0, K, K', h, k => k
  | c :: cs, n + 1, K, K', h, k => exactK_re (cs := cs) (n := n) h k
  | [], n + 1, K, _, h, _ => h.elim
  | _ :: _, 0, K, _, h, _ => h.elim
theorem oneK_re {x : V} {p q : Prop} (h : oneK x p) (k : q) : oneK x q := by
  unfold oneK at *
  cases x <;> first | exact h.elim | exact k | skip
  rename_i u
  dsimp only at *
  split at h
  · exact k
  · exact h.elim
/-- The cells of a part. -/
def cellsK (agg : Bool) (sz : Nat) (v : V) (K : List V → Prop) : Prop :=
  match agg with
  | true => match v with
    | .agg ys => exactK ys sz K
    | _ => False
  | false => oneK v (K [v])
theorem cellsK_get {agg : Bool} {sz : Nat} {v : V} {K : List V → Prop} (h : cellsK agg sz v K) : v.solid = true ∧ v.cells.length = (if agg then sz else 1) ∧ K v.cells := by
  unfold cellsK at h
  cases agg with
  | true =>
    cases v <;> first | exact h.elim | skip
    obtain ⟨h1, h2⟩ := exactK_get h
    exact ⟨rfl, by simpa [V.cells] using h1, h2⟩
  | false =>
    obtain ⟨h1, h2⟩ := oneK_get h
    have hc : v.cells = [v] := by cases v <;> first | rfl | (simp [V.one] at h1)
    have hs : v.solid = true := by cases v <;> first | rfl | exact h1
    exact ⟨hs, by simp [hc], by rw [hc]; exact h2⟩
theorem cellsK_re {agg : Bool} {sz : Nat} {v : V} {K K' : List V → Prop} (h : cellsK agg sz v K) (k : K' v.cells) : cellsK agg sz v K' := by
  unfold cellsK at *
  cases agg with
  | true =>
    cases v <;> first | exact h.elim | skip
    exact exactK_re h k
  | false =>
    have h1 := (oneK_get h).1
    have hc : v.cells = [v] := by cases v <;> first | rfl | (simp [V.one] at h1)
    rw [hc] at k
    exact oneK_re h k
def buildK (σ : Operand → Option V) : List (Nat × Nat × Bool × Operand) → List V → (List V → Prop) → Prop
  | [], cs, K => K cs
  | (o, sz, agg, x) :: ps, cs, K => on (σ x) fun v => cellsK agg sz v fun ys => setK cs o ys fun cs' => buildK σ ps cs' K
theorem buildK_re {σ : Operand → Option V} : ∀ {qs : List (Nat × Nat × Bool × Operand)} {cs : List V} {K : List V → Prop}, buildK σ qs cs K → ∃ r, K r ∧ ∀ K' : List V → Prop, K' r → buildK σ qs cs K'
  | [], cs, K, h => ⟨cs, h, fun _ k => k⟩
  | (o, sz, agg, x) :: ps, cs, K, h => by
    obtain ⟨v, h1, h2⟩ := on_get h
    obtain ⟨_, _, h3⟩ := cellsK_get h2
    obtain ⟨_, h4⟩ := setK_get h3
    obtain ⟨r, h5, h6⟩ := buildK_re h4
    refine ⟨r, h5, fun K' k => ?_⟩
    unfold buildK
    rw [h1]
    exact cellsK_re h2 (setK_re h3 (h6 K' k))

/-- A number that is tidied. -/
inductive Nm (a : Nat) (K : Nat → Prop) : Prop
  | mk (n : Nat) : a = n → K n → Nm a K
def bndK (σ : Operand → Option V) (x : Option Operand) (d : Nat) (K : Nat → Prop) : Prop :=
  match x with
  | none => K d
  | some x => on (σ x) fun v => match v with
    | .v (.int _ i) => Ix i K
    | _ => False

def pickK (c : V) (a b : Prop) : Prop := match c with | .v (.bool t) => Br t a b | _ => False
def notK (x : V) (K : V → Prop) : Prop := match x with | .v (.bool b) => K (vbool (!b)) | _ => False
def negK (x : V) (K : V → Prop) : Prop := match x with | .v (.int k n) => Wr k (0 - n) fun z => K (.v (.int k z)) | _ => False
def toIntK (k : IntKind) (x : V) (K : V → Prop) : Prop := match x with | .v (.int _ n) => Wr k n fun z => K (.v (.int k z)) | _ => False
def lensK (x : V) (K : V → Prop) : Prop := match x with | .v (.string ⟨⟨l⟩⟩) => K (int l.length) | _ => False
def lenrK (x : V) (K : V → Prop) : Prop := match x with
  | .row _ es => Len es fun n => K (int n)
  | .osl _ _ _ n => K (int n)
  | .v (.slice _ n _) => K (int n)
  | _ => False
def mxK (b : Bool) (x y : V) (K : V → Prop) : Prop := match x, y with
  | .v (.int k i), .v (.int k' j) => bif kEq k k' then (bif b then K (.v (.int k (max i j))) else K (.v (.int k (min i j)))) else False
  | _, _ => False
def sidxK (x i : V) (K : V → Prop) : Prop := match x, i with
  | .v (.string ⟨⟨l⟩⟩), .v (.int _ i) => Ix i fun n => Sd (n < l.length) (K (.v (.int .u8 ((l.getD n 0).toNat : Int))))
  | _, _ => False
def sslK (σ : Operand → Option V) (x : V) (lo hi : Option Operand) (K : V → Prop) : Prop := match x with
  | .v (.string ⟨⟨l⟩⟩) => match lo, hi with
    | none, none => K (vstr l)
    | some _, none => bndK σ lo 0 fun a => Sd (a ≤ l.length) (K (vstr (l.drop a)))
    | none, some _ => bndK σ hi 0 fun b => Sd (b ≤ l.length) (K (vstr (l.take b)))
    | some _, some _ => bndK σ lo 0 fun a => bndK σ hi 0 fun b => Sd (a ≤ b ∧ b ≤ l.length) (K (vstr ((l.take b).drop a)))
  | _ => False
def nthK : List V → Nat → (V → Prop) → Prop
  | c :: _, 0, K => K c
  | _ :: cs, n + 1, K => nthK cs n K
  | [], _, _ => False
theorem nthK_get : ∀ {cs : List V} {n : Nat} {K : V → Prop}, nthK cs n K → ∃ c, cs[n]? = some c ∧ K c
  | c :: cs, 0, K, h => ⟨c, rfl, h⟩
  | c :: cs, n + 1, K, h => by obtain ⟨x, h1, h2⟩ := nthK_get (cs := cs) (n := n) h; exact ⟨x, by simpa using h1, h2⟩
  | [], _, _, h => h.elim
def extK (x : V) (i : Nat) (K : V → Prop) : Prop := match x with | .tup vs => nthK vs i K | _ => False
def fldK (x : V) (o sz : Nat) (agg : Bool) (K : V → Prop) : Prop := match x with
  | .agg cs => match agg with
    | true => skipK cs o fun r => takeK r sz fun c => K (.agg c)
    | false => nthK cs o K
  | _ => False
def fadK (x : V) (o : Nat) (K : V → Prop) : Prop := match x with
  | .ptr sz k i j => K (.ptr sz k i (j + o))
  | .adr cs => skipK cs o fun r => K (.adr r)
  | .v (.pointer (some ⟨g, off, none⟩)) => K (.v (.pointer (some ⟨g, off + o, none⟩)))
  | _ => False
def nilcK (x : V) (K : V → Prop) : Prop := match x with
  | .ptr sz k i j => K (.ptr sz k i j)
  | .adr cs => K (.adr cs)
  | .fn (.func f) a b => K (.fn (.func f) a b)
  | .v (.func (.func f) a b) => K (.v (.func (.func f) a b))
  | _ => False
def slcK (σ : Operand → Option V) (sz : Nat) (x : V) (lo hi mx : Option Operand) (K : V → Prop) : Prop := match x with
  | .row sz' es => bif Nat.beq sz sz' then Len es fun n => bndK σ lo 0 fun i => bndK σ hi n fun j => match mx with
    | none => Sd (i ≤ j ∧ j ≤ n) (Sub es i j fun es' => K (.row sz es'))
    | some _ => bif hi.isSome then bndK σ mx 0 fun m => Sd (i ≤ j ∧ j ≤ m ∧ m ≤ n) (Sub es i j fun es' => K (.row sz es')) else False
    else False
  | .osl sz' k off n => bif Nat.beq sz sz' then bndK σ lo 0 fun i => bndK σ hi n fun j => match mx with
    | none => Sd (i ≤ j ∧ j ≤ n) (Nm (off + i) fun p => Nm (j - i) fun q => K (.osl sz k p q))
    | some _ => bif hi.isSome then bndK σ mx 0 fun m => Sd (i ≤ j ∧ j ≤ m ∧ m ≤ n) (Nm (off + i) fun p => Nm (j - i) fun q => K (.osl sz k p q)) else False
    else False
  | _ => False
def iadK (sz : Nat) (x i : V) (K : V → Prop) : Prop := match x, i with
  | .row sz' es, .v (.int _ i) => bif Nat.beq sz sz' then Ix i fun n => At es n fun e => K (.adr e) else False
  | .osl sz' k off n, .v (.int _ i) => bif Nat.beq sz sz' then Ix i fun m => Sd (m < n) (Nm (off + m) fun p => K (.ptr sz k p 0)) else False
  | _, _ => False

/-- Which views a value of the type may have where it is compared with nil. -/
def nilD (d : TypeDesc) (x : V) : Bool :=
  match d, x with
  | .func _ _ _, .fn _ _ _ => true
  | .func _ _ _, .v .nilFunc => true
  | .func _ _ _, .v (.func _ _ _) => true
  | .pointer _, .ptr _ _ _ _ => true
  | .pointer _, .adr _ => true
  | .pointer _, .v (.pointer none) => true
  | .interface _, .ifc _ _ => true
  | .interface _, .v .nilIface => true
  | .map _ _, .obj _ => true
  | .map _ _, .v (.map none) => true
  | .slice _, .v (.slice none 0 0) => true
  | _, _ => false
/-- Is it nil? -/
def nilOf (x : V) (K : Bool → Prop) : Prop := match x with
  | .fn _ _ _ => K false
  | .ptr _ _ _ _ => K false
  | .adr _ => K false
  | .ifc _ _ => K false
  | .obj _ => K false
  | .v .nilFunc => K true
  | .v (.func _ _ _) => K false
  | .v (.pointer none) => K true
  | .v .nilIface => K true
  | .v (.map none) => K true
  | .v (.slice none 0 0) => K true
  | _ => False
def negB (neg b : Bool) : Bool := bif neg then !b else b
def nilqK (d : TypeDesc) (neg : Bool) (x : V) (K : V → Prop) : Prop := bif nilD d x then nilOf x fun b => K (vbool (negB neg b)) else False

def ovP (o : OP) (σ : Operand → Option V) (K : V → Prop) : Prop :=
  match o with
  | .mv x => on (σ x) K
  | .pick c a b => on (σ c) fun vc => on (σ a) fun va => on (σ b) fun vb => pickK vc (K va) (K vb)
  | .bin op x y => on (σ x) fun vx => on (σ y) fun vy => binK op vx vy K
  | .binb op x y => on (σ x) fun vx => on (σ y) fun vy => binbK op vx vy K
  | .not x => on (σ x) fun v => notK v K
  | .neg x => on (σ x) fun v => negK v K
  | .toInt k x => on (σ x) fun v => toIntK k v K
  | .lens x => on (σ x) fun v => lensK v K
  | .lenr x => on (σ x) fun v => lenrK v K
  | .mx b x y => on (σ x) fun vx => on (σ y) fun vy => mxK b vx vy K
  | .sidx x i => on (σ x) fun v => on (σ i) fun vi => sidxK v vi K
  | .ssl x lo hi => on (σ x) fun v => sslK σ v lo hi K
  | .ext x i => on (σ x) fun v => extK v i K
  | .fld x o sz agg => on (σ x) fun v => fldK v o sz agg K
  | .fad x o => on (σ x) fun v => fadK v o K
  | .nilc x => on (σ x) fun v => nilcK v K
  | .mkfn f first cap => onL σ first fun a => onL σ cap fun b => K (.fn f a b)
  | .build zs parts => buildK σ parts (zs.map .v) fun cs => K (.agg cs)
  | .mkif t x => on (σ x) fun v => K (.ifc t v)
  | .slc sz x lo hi mx => on (σ x) fun v => slcK σ sz v lo hi mx K
  | .iad sz x i => on (σ x) fun v => on (σ i) fun vi => iadK sz v vi K
  | .nilq d neg x => on (σ x) fun v => nilqK d neg v K

/-! ### Compiling -/
/-- Where a field lies, how many cells it has, whether it is an aggregate. -/
def fld (P : Program) (s : TypeId) (f : Nat) : Option (Nat × Bool × Nat) :=
  match P.underlying s with
  | some (.struct fs) => match fs[f]? with
    | some fd => match lay P fd.type with
      | some (b, sz) => some (fd.offset, b, sz)
      | none => none
    | none => none
  | _ => none
def zero? (P : Program) (t : TypeId) : Option (List Value) :=
  ((P.info? t).bind (·.zero)).map fun z => z.cells.toList
def fieldsOk (P : Program) (s : TypeId) : Bool :=
  match P.underlying s with
  | some (.struct fs) => fs.toList.all fun f => (lay P f.type).isSome
  | _ => false
def partsOf (P : Program) (s : TypeId) : List (Nat × Operand) → Option (List (Nat × Nat × Bool × Operand))
  | [] => some []
  | (i, x) :: ps => match fld P s i, partsOf P s ps with
    | some (o, b, sz), some r => if b = true ∨ sz = 1 then some ((o, sz, b, x) :: r) else none
    | _, _ => none

/-- The nil of a type that is compared with it. -/
def isNilC (d : TypeDesc) (y : Operand) : Bool :=
  match d, y with
  | .func _ _ _, .const .nilFunc => true
  | .pointer _, .const (.pointer none) => true
  | .interface _, .const .nilIface => true
  | .map _ _, .const (.map none) => true
  | .slice _, .const (.slice none 0 0) => true
  | _, _ => false
def compP (P : Program) (o : Op) : Option OP :=
  match o with
  | .move x => some (.mv x)
  | .assign x => some (.mv x)
  | .pick c a b => some (.pick c a b)
  | .binOp op t x y _ => match P.underlying t with
    | some (.int _) => some (.bin op x y)
    | some .string => some (.bin op x y)
    | some .bool => some (.binb op x y)
    | some d => if isNilC d y then match op with
        | .eql => some (.nilq d false x)
        | .neq => some (.nilq d true x)
        | _ => none
      else none
    | none => none
  | .unOp .not _ x => some (.not x)
  | .unOp .neg _ x => some (.neg x)
  | .convert s t x => match P.underlying s, P.underlying t with
    | some (.int _), some (.int k) => some (.toInt k x)
    | _, _ => none
  | .call ⟨.builtin .len, args, ts⟩ => match args.toList, ts.toList with
    | [x], [t] => match P.underlying t with
      | some .string => some (.lens x)
      | some (.slice _) => some (.lenr x)
      | _ => none
    | _, _ => none
  | .call ⟨.builtin .max, args, _⟩ => match args.toList with
    | [x, y] => some (.mx true x y)
    | _ => none
  | .call ⟨.builtin .min, args, _⟩ => match args.toList with
    | [x, y] => some (.mx false x y)
    | _ => none
  | .index t x i => match P.underlying t with
    | some .string => some (.sidx x i)
    | _ => none
  | .slice t x lo hi mx => match P.underlying t with
    | some .string => if mx.isNone then some (.ssl x lo hi) else none
    | some (.slice e) => match lay P e with
      | some (_, sz) => some (.slc sz x lo hi mx)
      | none => none
    | _ => none
  | .extract x i => some (.ext x i)
  | .field s x f => match fld P s f with
    | some (o, b, sz) => some (.fld x o sz b)
    | none => none
  | .fieldAddr s x f => match fld P s f with
    | some (o, _, sz) => if sz = 0 then none else some (.fad x o)
    | none => none
  | .nilCheck x => some (.nilc x)
  | .makeFunc f first cap => some (.mkfn f first.toList cap.toList)
  | .build s parts => match zero? P s, partsOf P s parts.toList with
    | some zs, some ps => if fieldsOk P s then some (.build zs ps) else none
    | _, _ => none
  | .makeInterface t x => match P.underlying t with
    | some (.interface _) => none
    | some _ => some (.mkif t x)
    | none => none
  | .indexAddr t x i => match P.underlying t with
    | some (.slice e) => match lay P e with
      | some (_, sz) => some (.iad sz x i)
      | none => none
    | _ => none
  | _ => none
end Go.XW
