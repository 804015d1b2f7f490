/- The operations that look at the call's own blocks, or change them: compiled, told as conditions. -/
import Derived.Test.YtpiicncihccheaaGreatDoorX7
namespace Go.XW
open Go.RowKit

/-- Those that change nothing. -/
inductive OR where
  | ld (agg : Bool) (sz : Nat) (x : Operand)
  | txt (x : Operand)
  deriving Inhabited
/-- Those that do. -/
inductive OW where
  | st (agg : Bool) (sz : Nat) (x y : Operand)
  | box (agg : Bool) (sz : Nat) (x : Operand)
  | alloc (sz : Nat) (zs : List Value)
  | lit (own : Bool) (sz len : Nat) (zs : List Value) (parts : List (Nat × Nat × Bool × Operand))
  | make (sz by' : Nat) (zs : List Value) (x y : Operand)
  | app (c sz by' : Nat) (x y : Operand)
  | apps (c by' : Nat) (x y : Operand)
  | bytes (x : Operand)
  | call (f : FuncId) (args : List Operand)
  | callv (g : Operand) (args : List Operand)
  deriving Inhabited

/-- Bytes as numbers. -/
def nums (l : List UInt8) : List Int := l.map fun b => (b.toNat : Int)
def ofNums (ns : List Int) : List UInt8 := ns.map fun n => UInt8.ofNat n.toNat
def rInts (k : IntKind) (ns : List Int) : List (List V) := ns.map fun n => [.v (.int k n)]

inductive SetE (es : List (List V)) (i : Nat) (e : List V) (K : List (List V) → Prop) : Prop
  | mk (es' : List (List V)) : es.set i e = es' → K es' → SetE es i e K
/-- Elements behind others; how many there are. -/
inductive AppE (es es2 : List (List V)) (n : Nat) (K : List (List V) → Nat → Prop) : Prop
  | mk (es' : List (List V)) (m : Nat) : es.length = n → es ++ es2 = es' → n + es2.length = m → (∀ e ∈ es2, e.all V.one = true) → K es' m → AppE es es2 n K
inductive Mk (n : Nat) (zs : List V) (K : List (List V) → Prop) : Prop
  | mk (es : List (List V)) : List.replicate n zs = es → K es → Mk n zs K
/-- Rows of bytes. -/
inductive Byt (es : List (List V)) (K : List Int → Prop) : Prop
  | mk (ns : List Int) : es = rInts .u8 ns → K ns → Byt es K
/-- For a name that is new. -/
structure NewC (C K : Nat → Prop) : Prop where
  allc : ∀ k, C k → K k
abbrev New (K : Nat → Prop) : Prop := NewC (fun _ => True) K
theorem NewC.all {K : Nat → Prop} (h : New K) : ∀ k, K k := fun k => h.allc k trivial

/-- The value at a place's cells. -/
def valK (agg : Bool) (sz : Nat) (cs : List V) (K : V → Prop) : Prop :=
  match agg with
  | true => takeK cs sz fun c => K (.agg c)
  | false => match cs with
    | c :: _ => K c
    | [] => False
/-- A table of the program's. -/
inductive HasT (g : Nat) (K : List Value → Prop) : Hp → Prop
  | here (k : Nat) (vs : List Value) (h : Hp) : K vs → HasT g K ((k, .tab g vs) :: h)
  | there (x : Nat × HO) (h : Hp) : HasT g K h → HasT g K (x :: h)
theorem HasT.open {g : Nat} {K : List Value → Prop} {h : Hp} (hh : HasT g K h) : ∃ k vs, (k, HO.tab g vs) ∈ h ∧ K vs := by
  induction hh with
  | here k vs h hk => exact ⟨k, vs, by simp, hk⟩
  | there x h _ ih => obtain ⟨k, vs, h1, h2⟩ := ih; exact ⟨k, vs, List.mem_cons_of_mem _ h1, h2⟩
inductive AtT (vs : List Value) (off sz : Nat) (K : List Value → Prop) : Prop
  | mk (us : List Value) : (vs.drop off).take sz = us → K us → AtT vs off sz K
def ldK (agg : Bool) (sz : Nat) (x : V) (h : Hp) (K : V → Prop) : Prop :=
  match x with
  | .adr cs => valK agg sz cs K
  | .ptr s k i j => Has k s (fun es => At es i fun e => skipK e j fun r => valK agg sz r K) h
  | .v (.pointer (some ⟨g, off, none⟩)) => HasT g (fun vs => AtT vs off sz fun us => valK agg sz (us.map .v) K) h
  | _ => False
def txtK (x : V) (h : Hp) (K : V → Prop) : Prop :=
  match x with
  | .row 1 es => Byt es fun ns => K (vstr (ofNums ns))
  | .osl 1 k off n => Has k 1 (fun es => Len es fun m => Sd (off + n ≤ m) (Sub es off (off + n) fun es' => Byt es' fun ns => K (vstr (ofNums ns)))) h
  | .v (.slice none 0 0) => K (vstr [])
  | _ => False
def ovR (o : OR) (σ : Operand → Option V) (h : Hp) (K : V → Prop) : Prop :=
  match o with
  | .ld agg sz x => on (σ x) fun v => ldK agg sz v h K
  | .txt x => on (σ x) fun v => txtK v h K

def stK (agg : Bool) (sz : Nat) (x y : V) (h : Hp) (K : Hp → Prop) : Prop :=
  match x with
  | .ptr s k i j => cellsK agg sz y fun ys => onesK ys (Upd k s (fun es c => At es i fun e => setK e j ys fun e' => SetE es i e' fun es' => K (c (k, .blk s es'))) h)
  | _ => False
def makeK (sz by' : Nat) (zs : List Value) (x y : V) (h : Hp) (K : V → Hp → Prop) : Prop :=
  match x, y with
  | .v (.int _ n), .v (.int _ c) => Ix n fun n => Ix c fun c => Sd (n ≤ c ∧ by' * c ≤ 281474976710656 ∧ c ≤ 9223372036854775807) (forceL (zs.map .v) fun ys => Mk n ys fun es => New fun k => K (.osl sz k 0 n) ((k, .blk sz es) :: h))
  | _, _ => False
/-- What is appended: a row's elements. -/
def srcK (sz : Nat) (y : V) (h : Hp) (K : List (List V) → Prop) : Prop :=
  match y with
  | .row s es => bif Nat.beq s sz then K es else False
  | .osl s k off n => bif Nat.beq s sz then Has k s (fun es => Len es fun m => Sd (off + n ≤ m) (Sub es off (off + n) K)) h else False
  | .v (.slice none 0 0) => K []
  | _ => False
def appToK (c sz by' : Nat) (x : V) (es2 : List (List V)) (h : Hp) (K : V → Hp → Prop) : Prop :=
  match x with
  | .v (.slice none 0 0) => AppE [] es2 0 fun es' m => Sd (m * by' ≤ 140737488355328) (NewC (fun k => nameT k = some c) fun k => K (.osl sz k 0 m) ((k, .blk sz es') :: h))
  | .osl s k 0 n => bif Nat.beq s sz then Upd k sz (fun es cc => AppE es es2 n fun es' m => Sd (m * by' ≤ 140737488355328) (NewC (fun k' => nameT k' = some c ∨ k' = k) fun k' => K (.osl sz k' 0 m) (cc (k', .blk sz es')))) h else False
  | _ => False
def appK (c sz by' : Nat) (x y : V) (h : Hp) (K : V → Hp → Prop) : Prop := srcK sz y h fun es2 => appToK c sz by' x es2 h K
def appsK (c by' : Nat) (x y : V) (h : Hp) (K : V → Hp → Prop) : Prop :=
  match y with
  | .v (.string ⟨⟨l⟩⟩) => appToK c 1 by' x (rInts .u8 (nums l)) h K
  | _ => False
def bytesK (x : V) (h : Hp) (K : V → Hp → Prop) : Prop :=
  match x with
  | .v (.string ⟨⟨l⟩⟩) => Sd (l.length ≤ 9223372036854775807) (New fun k => K (.osl 1 k 0 l.length) ((k, .blk 1 (rInts .u8 (nums l))) :: h))
  | _ => False
def chunksK (sz : Nat) : Nat → List V → (List (List V) → Prop) → Prop
  | 0, _, K => K []
  | n + 1, cs, K => takeK cs sz fun e => skipK cs sz fun r => chunksK sz n r fun es => K (e :: es)
/-- A call of yield of the loop whose record is named k. -/
def YCalls (P : Program) (k : Nat) (args : List V) (h : Hp) (K : V → Hp → Prop) (KP : List PanicEntry → Hp → Prop := fun _ _ => False) : Prop :=
  ∀ (base : World) (F : Fro) (args' : Array Value) (w : World) (g tot : Nat), Sim base F h w → RepL F args args'.toList → F.r k = some (some (g, tot)) → VOut P base F K KP ((Instr.yield g args').run P w)
def callvK (P : Program) (g : V) (args : List V) (h : Hp) (K : V → Hp → Prop) (KP : List PanicEntry → Hp → Prop) : Prop :=
  match g with
  | .fn (.func f) a b => VCalls P f (a ++ args ++ b) h K KP
  | .v (.func (.func f) a b) => VCalls P f (a.toList.map .v ++ args ++ b.toList.map .v) h K KP
  | .yld k => YCalls P k args h K KP
  | _ => False

def ovW (P : Program) (o : OW) (σ : Operand → Option V) (h : Hp) (K : V → Hp → Prop) (KP : List PanicEntry → Hp → Prop) : Prop :=
  match o with
  | .st agg sz x y => on (σ x) fun vx => on (σ y) fun vy => stK agg sz vx vy h fun h' => K (.v undef) h'
  | .box agg sz x => on (σ x) fun v => cellsK agg sz v fun ys => New fun k => K (.ptr sz k 0 0) ((k, .blk sz [ys]) :: h)
  | .alloc sz zs => forceL (zs.map .v) fun ys => New fun k => K (.ptr sz k 0 0) ((k, .blk sz [ys]) :: h)
  | .lit own sz len zs parts => buildK σ parts ((List.replicate len (zs.map .v)).flatten) fun cs => chunksK sz len cs fun es => match own with
    | true => New fun k => K (.osl sz k 0 len) ((k, .blk sz es) :: h)
    | false => K (.row sz es) h
  | .make sz by' zs x y => on (σ x) fun vx => on (σ y) fun vy => makeK sz by' zs vx vy h K
  | .app c sz by' x y => on (σ x) fun vx => on (σ y) fun vy => appK c sz by' vx vy h K
  | .apps c by' x y => on (σ x) fun vx => on (σ y) fun vy => appsK c by' vx vy h K
  | .bytes x => on (σ x) fun v => bytesK v h K
  | .call f args => onL σ args fun vs => VCalls P f vs h K KP
  | .callv g args => on (σ g) fun vg => onL σ args fun vs => callvK P vg vs h K KP

/-! ### Compiling -/
def compR (P : Program) (o : Op) : Option OR :=
  match o with
  | .load t x => match lay P t with
    | some (b, sz) => some (.ld b sz x)
    | none => none
  | .convert s t x => match P.underlying s, P.underlying t with
    | some (.slice e), some .string => match P.underlying e with
      | some (.int .u8) => some (.txt x)
      | _ => none
    | _, _ => none
  | _ => none
def litParts (sz : Nat) (b : Bool) : List (Nat × Operand) → List (Nat × Nat × Bool × Operand)
  | [] => []
  | (i, x) :: ps => (i * sz, sz, b, x) :: litParts sz b ps
/-- own: whether a row literal is the call's own. -/
def compW (P : Program) (own : Bool) (o : Op) : Option OW :=
  match o with
  | .store t x y => match lay P t with
    | some (b, sz) => if b = true ∨ sz = 1 then some (.st b sz x y) else none
    | none => none
  | .box t x => match lay P t with
    | some (b, sz) => if b = true ∨ sz = 1 then some (.box b sz x) else none
    | none => none
  | .alloc t => match lay P t, zero? P t with
    | some (_, sz), some zs => if zs.length = sz then some (.alloc sz zs) else none
    | _, _ => none
  | .buildSlice t len parts => match P.underlying t with
    | some (.slice e) => match lay P e, zero? P e with
      | some (b, sz), some zs => if (b = true ∨ sz = 1) ∧ 0 < sz ∧ zs.length = sz ∧ len * sz ≤ 16777216 ∧ 0 < len then some (.lit own sz len zs (litParts sz b parts.toList)) else none
      | _, _ => none
    | _ => none
  | .makeSlice t x y => match P.underlying t with
    | some (.slice e) => match lay P e, zero? P e, P.info? e with
      | some (_, sz), some zs, some i => if zs.length = sz then some (.make sz i.bytes zs x y) else none
      | _, _, _ => none
    | _ => none
  | .convert s t x => match P.underlying s, P.underlying t with
    | some .string, some (.slice e) => match P.underlying e with
      | some (.int .u8) => some (.bytes x)
      | _ => none
    | _, _ => none
  | .call ⟨.builtin .append, args, ts⟩ => match args.toList, ts.toList with
    | [x, y], [t, t2] => match P.underlying t with
      | some (.slice e) => match lay P e, zero? P e, P.info? e with
        | some (_, sz), some zs, some i => if zs.length = sz ∧ 0 < i.bytes then match P.underlying t2 with
          | some (.slice _) => some (.app (e * 1000) sz i.bytes x y)
          | some .string => if sz = 1 then some (.apps (e * 1000) i.bytes x y) else none
          | _ => none else none
        | _, _, _ => none
      | _ => none
    | _, _ => none
  | .call ⟨.value (.func f), args, _⟩ => if okFn P f then some (.call f args.toList) else none
  | .call ⟨.value g, args, _⟩ => some (.callv g args.toList)
  | _ => none
end Go.XW
