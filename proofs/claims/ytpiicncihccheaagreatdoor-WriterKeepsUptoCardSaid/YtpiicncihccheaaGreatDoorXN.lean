/- More operations: pointers held against each other and turned to unsafe.Pointer and back, functions without a body, bytes taken for a text, capacities, texts gone through by runes. -/
import Derived.Test.YtpiicncihccheaaGreatDoorXB
import Derived.Lib.Builder
import Derived.Lib.UnsafeStr
namespace Go.XW
open Go.RowKit
set_option linter.unusedVariables false

inductive OX where
  | row0 (sz : Nat)
  | peq (neg : Bool) (x y : Operand)
  | sdat (x : Operand)
  | gad (n sz : Nat) (x i : Operand)
  | rst (x : Operand)
  | toU (x : Operand)
  | fromU (u : TypeId) (x : Operand)
  | ext (f : FuncId) (args : List Operand)
  | ustr (c : Nat) (x n : Operand)
  | cap (x : Operand)
  | srng (x : Operand)
  | snxt (x : Operand)
  | allocT (c sz : Nat) (zs : List Value)
  | boxT (c : Nat) (agg : Bool) (sz : Nat) (x : Operand)
  | bad
  deriving Inhabited

/-- A function that has no body of Go's: what the model's entry does. -/
structure XCalls (P : Program) (f : FuncId) (args : List V) (h : Hp) (R : V → Hp → Prop) (RP : List PanicEntry → Hp → Prop := fun _ _ => False) : Prop where
  run : ∀ (base : World) (F : Fro) (args' : Array Value) (w : World), Sim base F h w → RepL F args args'.toList → VOut P base F R RP ((callFunc f args').run P w)
/-- A place where a variable of the type lies. -/
inductive Lies (P : Program) (k off : Nat) (u : TypeId) (K : Prop) : Prop
  | mk (c : Nat) : nameT k = some c → c % 1000 ≠ 0 → liesAt P P.depth (c / 1000) (c % 1000 / P.cellsOf (c / 1000)) off u 1 = true → K → Lies P k off u K
/-- An object of the call's own. -/
inductive UpdO (k : Nat) : (Obj → (Nat × HO → Hp) → Prop) → Hp → Prop
  | here (K : Obj → (Nat × HO → Hp) → Prop) (o : Obj) (h : Hp) : K o (fun x => x :: h) → UpdO k K ((k, .obj o) :: h)
  | there (K : Obj → (Nat × HO → Hp) → Prop) (x : Nat × HO) (h : Hp) : UpdO k (fun o c => K o (fun y => x :: c y)) h → UpdO k K (x :: h)
theorem UpdO.open {k : Nat} {K : Obj → (Nat × HO → Hp) → Prop} {h : Hp} (hh : UpdO k K h) : ∃ h1 o h2, h = h1 ++ (k, .obj o) :: h2 ∧ K o (fun x => h1 ++ x :: h2) := by
  induction hh with
  | here K o h hk => exact ⟨[], o, h, rfl, hk⟩
  | there K x h _ ih => obtain ⟨h1, o, h2, rfl, hk⟩ := ih; exact ⟨x :: h1, o, h2, rfl, hk⟩
/-- A block that is let go. -/
inductive Del (k sz : Nat) : (List (List V) → Hp → Prop) → Hp → Prop
  | here (K : List (List V) → Hp → Prop) (es : List (List V)) (h : Hp) : K es h → Del k sz K ((k, .blk sz es) :: h)
  | there (K : List (List V) → Hp → Prop) (x : Nat × HO) (h : Hp) : Del k sz (fun es h' => K es (x :: h')) h → Del k sz K (x :: h)
theorem Del.open {k sz : Nat} {K : List (List V) → Hp → Prop} {h : Hp} (hh : Del k sz K h) : ∃ h1 es h2, h = h1 ++ (k, .blk sz es) :: h2 ∧ K es (h1 ++ h2) := by
  induction hh with
  | here K es h hk => exact ⟨[], es, h, rfl, hk⟩
  | there K x h _ ih => obtain ⟨h1, es, h2, rfl, hk⟩ := ih; exact ⟨x :: h1, es, h2, rfl, hk⟩

/-- Two pointers alike. -/
inductive Eq4 (s k i j s' k' i' j' : Nat) (K : Prop) : Prop
  | mk : s = s' ∧ k = k' ∧ i = i' ∧ j = j' → K → Eq4 s k i j s' k' i' j' K
/-- A row without elements: to be read, or to be appended to, under a name for nothing. -/
inductive R0 (sz : Nat) (K : V → Prop) : Prop
  | row : K (.row sz []) → R0 sz K
  | osl (k : Nat) : K (.osl sz k 0 0) → R0 sz K
def peqK (neg : Bool) (x y : V) (K : V → Prop) : Prop :=
  match x, y with
  | .ptr s k i j, .ptr s' k' i' j' => Eq4 s k i j s' k' i' j' (K (vbool neg))
  | _, _ => False
def gadK (n sz : Nat) (x i : V) (K : V → Prop) : Prop :=
  match x, i with
  | .v (.pointer (some ⟨g, off, none⟩)), .v (.int _ i) => Ix i fun m => Sd (m < n) (K (.v (.pointer (some ⟨g, off + m * sz, none⟩))))
  | .ptr s k i0 j, .v (.int _ i) => Ix i fun m => Sd (m < n) (K (.ptr s k i0 (j + m * sz)))
  | _, _ => False
/-- The bytes of runes. -/
def runesL (ns : List Int) : List UInt8 := (ns.map fun r => (Utf8.encode r).data.toList).flatten
inductive Rns (es : List (List V)) (K : List Int → Prop) : Prop
  | mk (ns : List Int) : es = rInts .i32 ns → K ns → Rns es K
def rstK (x : V) (h : Hp) (K : V → Prop) : Prop :=
  match x with
  | .row 1 es => Rns es fun ns => Sd (0 < ns.length) (K (vstr (runesL ns)))
  | .osl 1 k off n => Has k 1 (fun es => Len es fun m => Sd (off + n ≤ m) (Sub es off (off + n) fun es' => Rns es' fun ns => Sd (0 < ns.length) (K (vstr (runesL ns))))) h
  | _ => False
def sdatK (x : V) (K : V → Prop) : Prop :=
  match x with
  | .osl 1 k off n => Sd (0 < n) (K (.ptr 1 k off 0))
  | .v (.slice none 0 0) => K (.v (.pointer none))
  | _ => False
def toUK (x : V) (h : Hp) (K : V → Prop) : Prop :=
  match x with
  | .ptr s k i j => Has k s (fun es => At es i fun e => Sd (j < s) (K (.ptr s k i j))) h
  | _ => False
def fromUK (P : Program) (u : TypeId) (x : V) (h : Hp) (K : V → Prop) : Prop :=
  match x with
  | .ptr s k 0 j => Has k s (fun es => Lies P k j u (K (.ptr s k 0 j))) h
  | _ => False
def ustrK (c : Nat) (x n : V) (h : Hp) (K : V → Hp → Prop) : Prop :=
  match x, n with
  | .v (.pointer none), .v (.int .i64 n) => Ix n fun n => bif Nat.beq n 0 then K (vstr []) h else False
  | .ptr 1 k 0 0, .v (.int .i64 n) => Ix n fun n => Sd (nameT k = some c) (Del k 1 (fun es h' => Len es fun m => Sd (0 < n ∧ n ≤ m ∧ n ≤ 9223372036854775807) (Sub es 0 n fun es' => Byt es' fun ns => Sd (∀ x ∈ ns, 0 ≤ x ∧ x ≤ 255) (K (vstr (ofNums ns)) h'))) h)
  | _, _ => False
def capK (x : V) (h : Hp) (K : V → Hp → Prop) : Prop :=
  match x with
  | .osl _ _ _ n => ∀ c : Nat, n ≤ c → c ≤ 9223372036854775807 → K (int c) h
  | .v (.slice none 0 0) => K (int 0) h
  | _ => False
def srngK (x : V) (h : Hp) (K : V → Hp → Prop) : Prop :=
  match x with
  | .v (.string s) => New fun k => K (.ptr 1 k 0 0) ((k, .obj (.stringIter s 0)) :: h)
  | _ => False
def strAt (k : Nat) (K : V → Hp → Prop) (o : Obj) (c : Nat × HO → Hp) : Prop :=
  match o with
  | .stringIter s p => Br (decide (p < s.size)) (K (.tup [vbool true, int p, .v (.int .i32 (Utf8.decode s p).1)]) (c (k, .obj (.stringIter s (p + (Utf8.decode s p).2))))) (K (.tup [vbool false]) (c (k, .obj (.stringIter s p))))
  | _ => False
def snxtK (x : V) (h : Hp) (K : V → Hp → Prop) : Prop :=
  match x with
  | .ptr 1 k 0 0 => UpdO k (strAt k K) h
  | _ => False
def ovX (P : Program) (o : OX) (σ : Operand → Option V) (h : Hp) (K : V → Hp → Prop) (KP : List PanicEntry → Hp → Prop) : Prop :=
  match o with
  | .row0 sz => R0 sz fun v => K v h
  | .peq neg x y => on (σ x) fun vx => on (σ y) fun vy => peqK neg vx vy fun v => K v h
  | .sdat x => on (σ x) fun vx => sdatK vx fun v => K v h
  | .rst x => on (σ x) fun vx => rstK vx h fun v => K v h
  | .gad n sz x i => on (σ x) fun vx => on (σ i) fun vi => gadK n sz vx vi fun v => K v h
  | .toU x => on (σ x) fun vx => toUK vx h fun v => K v h
  | .fromU u x => on (σ x) fun vx => fromUK P u vx h fun v => K v h
  | .ext f args => onL σ args fun vs => XCalls P f vs h K KP
  | .ustr c x n => on (σ x) fun vx => on (σ n) fun vn => ustrK c vx vn h K
  | .cap x => on (σ x) fun vx => capK vx h K
  | .srng x => on (σ x) fun vx => srngK vx h K
  | .snxt x => on (σ x) fun vx => snxtK vx h K
  | .allocT c sz zs => forceL (zs.map .v) fun ys => NewC (fun k => nameT k = some c) fun k => K (.ptr sz k 0 0) ((k, .blk sz [ys]) :: h)
  | .boxT c b sz x => on (σ x) fun v => cellsK b sz v fun ys => NewC (fun k => nameT k = some c) fun k => K (.ptr sz k 0 0) ((k, .blk sz [ys]) :: h)
  | .bad => False

/-! ### Compiling -/
def isB (P : Program) (t : TypeId) : Bool :=
  match P.underlying t with
  | some (.struct fs) => fs.toList.map (·.name) == ["addr", "buf"]
  | _ => false
def hasB (P : Program) (t : TypeId) : Bool :=
  isB P t || match P.underlying t with
    | some (.struct fs) => fs.toList.any fun f => isB P f.type
    | _ => false
def isTmp' : Operand → Bool
  | .tmp _ => true
  | _ => false
def compX (P : Program) (o : Op) : Option OX :=
  match o with
  | .alloc t => if hasB P t then match lay P t, zero? P t with
    | some (_, sz), some zs => if zs.length = sz ∧ sz < 1000 ∧ 0 < sz then some (.allocT (t * 1000 + sz) sz zs) else none
    | _, _ => none
    else none
  | .box t x => if hasB P t then match lay P t with
    | some (b, sz) => if (b = true ∨ sz = 1) ∧ sz < 1000 ∧ 0 < sz then some (.boxT (t * 1000 + sz) b sz x) else none
    | none => none
    else none
  | .buildSlice t 0 parts => if parts.isEmpty then match P.underlying t with
    | some (.slice e) => match lay P e with
      | some (_, sz) => if 0 < sz then some (.row0 sz) else none
      | none => none
    | _ => none
    else none
  | .convert s t x => match P.underlying s, P.underlying t with
    | some (.pointer e), some .unsafePointer => match P.info? e with
      | some j => if j.size = 0 then none else some (.toU x)
      | none => none
    | some .unsafePointer, some (.pointer u) => match P.info? u with
      | some _ => some (.fromU u x)
      | none => none
    | some (.slice e), some .string => match P.underlying e with
      | some (.int .i32) => some (.rst x)
      | _ => none
    | _, _ => none
  | .binOp op t x y t2 => match P.underlying t with
    | some (.pointer e) => match P.info? e with
      | some _ => if t = t2 ∧ isTmp' x = true ∧ isTmp' y = true then match op with
        | .eql => some (.peq true x y)
        | .neq => some (.peq false x y)
        | _ => none
        else none
      | none => none
    | _ => none
  | .call ⟨.builtin .unsafeSliceData, args, ts⟩ => match args.toList with
    | [x] => some (.sdat x)
    | _ => none
  | .call ⟨.builtin .unsafeString, args, ts⟩ => match args.toList, ts.toList with
    | [x, n], [pt, _] => match P.underlying pt with
      | some (.pointer e) => if P.cellsOf e = 1 then match P.underlying e with
        | some (.int .u8) => some (.ustr (e * 1000) x n)
        | _ => none else none
      | _ => none
    | _, _ => none
  | .call ⟨.builtin .cap, args, ts⟩ => match args.toList, ts.toList with
    | [x], [t] => match P.underlying t with
      | some (.slice _) => some (.cap x)
      | _ => none
    | _, _ => none
  | .call ⟨.value (.func f), args, _⟩ => if okFn P f then none else some (.ext f args.toList)
  | .indexAddr t x i => match P.underlying t with
    | some (.array n e) => match lay P e with
      | some (_, sz) => some (.gad n sz x i)
      | none => none
    | _ => none
  | .range t x => match P.underlying t with
    | some .string => some (.srng x)
    | _ => none
  | .next x true => some (.snxt x)
  | .panic _ => some .bad
  | _ => none
def clsX : OX → Nat
  | .row0 _ => 0
  | .peq _ _ _ => 0
  | .sdat _ => 0
  | .gad _ _ _ _ => 0
  | .rst _ => 1
  | .toU _ => 1
  | .fromU _ _ => 1
  | _ => 2
end Go.XW
