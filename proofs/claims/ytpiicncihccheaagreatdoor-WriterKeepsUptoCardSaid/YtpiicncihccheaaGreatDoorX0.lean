/- The words of the views: what a value of the machine is seen as, the call's own blocks by names, and when a world fits them. -/
import Derived.WalkKit
import Derived.CallsIn
import Derived.OrdersIn
import Derived.Below
import Derived.KernelRfl
import Derived.Deep.MidRow
namespace Go.XW
open Go.RowKit

/-- A view of a value. osl: a slice of the call's own block k, from element off on, n of them; ptr: a pointer to cell j of its element i. -/
inductive V where
  | any
  | v (x : Value)
  | row (sz : Nat) (es : List (List V))
  | adr (cs : List V)
  | agg (cs : List V)
  | tup (vs : List V)
  | ifc (t : TypeId) (x : V)
  | fn (f : Fn) (first captured : List V)
  | osl (sz k off n : Nat)
  | ptr (sz k i j : Nat)
  | obj (k : Nat)
  | yld (k : Nat)

instance : Inhabited V := ⟨.any⟩

/-- What is known for good: frozen blocks; the names of the call's own blocks: where each lies and how many cells it has (or that it is nowhere). -/
structure Fro where
  f : Nat → Option Obj
  r : Nat → Option (Option (Nat × Nat))

mutual
inductive Rep (F : Fro) : V → Value → Prop
  | any (u : Value) : Rep F .any u
  | v (x : Value) : Rep F (.v x) x
  | row0 (sz : Nat) (a : Option Addr) (c : Nat) : Rep F (.row sz []) (.slice a 0 c)
  | row (sz : Nat) (es : List (List V)) (g off n c : Nat) (vs : Array Value) (t : TypeId) (fr : Nat × Nat) : F.f g = some (.cells vs t fr) → n = es.length → n ≤ c → RepR F sz es (vs.toList.drop off) → Rep F (.row sz es) (.slice (some ⟨g, off, none⟩) n c)
  | adr (cs : List V) (g off : Nat) (vs : Array Value) (t : TypeId) (fr : Nat × Nat) : F.f g = some (.cells vs t fr) → RepP F cs (vs.toList.drop off) → Rep F (.adr cs) (.pointer (some ⟨g, off, none⟩))
  | agg (cs : List V) (us : Array Value) : RepL F cs us.toList → Rep F (.agg cs) (.agg us)
  | tup (cs : List V) (us : Array Value) : RepL F cs us.toList → Rep F (.tup cs) (.tuple us)
  | ifc (t : TypeId) (x : V) (u : Value) : Rep F x u → Rep F (.ifc t x) (.iface t u)
  | fn (f : Fn) (a b : List V) (a' b' : Array Value) : RepL F a a'.toList → RepL F b b'.toList → Rep F (.fn f a b) (.func f a' b')
  | osl0 (sz k off : Nat) (a : Option Addr) : Rep F (.osl sz k off 0) (.slice a 0 0)
  | osl (sz k off n c g tot : Nat) : F.r k = some (some (g, tot)) → n ≤ c → (off + c) * sz ≤ tot → c ≤ 9223372036854775807 → Rep F (.osl sz k off n) (.slice (some ⟨g, off * sz, none⟩) n c)
  | ptr (sz k i j g tot : Nat) : F.r k = some (some (g, tot)) → Rep F (.ptr sz k i j) (.pointer (some ⟨g, i * sz + j, none⟩))
  | obj (k g tot : Nat) : F.r k = some (some (g, tot)) → Rep F (.obj k) (.map (some g))
  | yld (k g tot : Nat) : F.r k = some (some (g, tot)) → Rep F (.yld k) (.func (.yield g) #[] #[])
inductive RepL (F : Fro) : List V → List Value → Prop
  | nil : RepL F [] []
  | cons (x : V) (u : Value) (xs : List V) (us : List Value) : Rep F x u → RepL F xs us → RepL F (x :: xs) (u :: us)
inductive RepP (F : Fro) : List V → List Value → Prop
  | nil (us : List Value) : RepP F [] us
  | cons (x : V) (u : Value) (xs : List V) (us : List Value) : Rep F x u → RepP F xs us → RepP F (x :: xs) (u :: us)
inductive RepR (F : Fro) : Nat → List (List V) → List Value → Prop
  | nil (sz : Nat) (us : List Value) : RepR F sz [] us
  | cons (sz : Nat) (e : List V) (es : List (List V)) (us : List Value) : e.length = sz → RepP F e us → RepR F sz es (us.drop sz) → RepR F sz (e :: es) us
end

def FLe (F F' : Fro) : Prop := (∀ g o, F.f g = some o → F'.f g = some o) ∧ ∀ k x, F.r k = some x → F'.r k = some x
theorem FLe.refl (F : Fro) : FLe F F := ⟨fun _ _ h => h, fun _ _ h => h⟩
theorem FLe.trans {F G H : Fro} (h : FLe F G) (k : FLe G H) : FLe F H := ⟨fun g o x => k.1 g o (h.1 g o x), fun g o x => k.2 g o (h.2 g o x)⟩

mutual
theorem Rep.mono {F F' : Fro} (hF : FLe F F') : ∀ {x : V} {u : Value}, Rep F x u → Rep F' x u
  | _, _, .any u => .any u
  | _, _, .v x => .v x
  | _, _, .row0 sz a c => .row0 sz a c
  | _, _, .row sz es g off n c vs t fr h1 h2 h3 h4 => .row sz es g off n c vs t fr (hF.1 _ _ h1) h2 h3 (RepR.mono hF h4)
  | _, _, .adr cs g off vs t fr h1 h2 => .adr cs g off vs t fr (hF.1 _ _ h1) (RepP.mono hF h2)
  | _, _, .agg cs us h => .agg cs us (RepL.mono hF h)
  | _, _, .tup cs us h => .tup cs us (RepL.mono hF h)
  | _, _, .ifc t x u h => .ifc t x u (Rep.mono hF h)
  | _, _, .fn f a b a' b' h k => .fn f a b a' b' (RepL.mono hF h) (RepL.mono hF k)
  | _, _, .osl0 sz k off a => .osl0 sz k off a
  | _, _, .osl sz k off n c g tot h1 h2 h3 h4 => .osl sz k off n c g tot (hF.2 _ _ h1) h2 h3 h4
  | _, _, .ptr sz k i j g tot h1 => .ptr sz k i j g tot (hF.2 _ _ h1)
  | _, _, .obj k g tot h1 => .obj k g tot (hF.2 _ _ h1)
  | _, _, .yld k g tot h1 => .yld k g tot (hF.2 _ _ h1)
theorem RepL.mono {F F' : Fro} (hF : FLe F F') : ∀ {xs : List V} {us : List Value}, RepL F xs us → RepL F' xs us
  | _, _, .nil => .nil
  | _, _, .cons x u xs us h k => .cons x u xs us (Rep.mono hF h) (RepL.mono hF k)
theorem RepP.mono {F F' : Fro} (hF : FLe F F') : ∀ {xs : List V} {us : List Value}, RepP F xs us → RepP F' xs us
  | _, _, .nil us => .nil us
  | _, _, .cons x u xs us h k => .cons x u xs us (Rep.mono hF h) (RepP.mono hF k)
theorem RepR.mono {F F' : Fro} (hF : FLe F F') : ∀ {sz : Nat} {xs : List (List V)} {us : List Value}, RepR F sz xs us → RepR F' sz xs us
  | _, _, _, .nil sz us => .nil sz us
  | _, _, _, .cons sz e es us h1 h2 h3 => .cons sz e es us h1 (RepP.mono hF h2) (RepR.mono hF h3)
end

/-- A block of the call's own: its elements, each of sz cells (from the first one on); or another thing. -/
inductive HO where
  | blk (sz : Nat) (es : List (List V))
  | obj (o : Obj)
  | lp (N : Nat) (f : List (Nat × V)) (r : Loop)
  | tab (g : Nat) (vs : List Value)

abbrev Hp := List (Nat × HO)

def NoFr (us : Array Value) (fr : Nat × Nat) : Prop := ∀ i, i < us.size → ¬ (fr.1 ≤ i ∧ i < fr.2)

abbrev Fr := List (Nat × V)
def look (n : Nat) : Fr → Option V
  | [] => none
  | (m, v) :: r => bif Nat.beq n m then some v else look n r
/-- Temporaries, some of them seen. -/
def RepF (F : Fro) (f : Fr) (tmps : Array Value) : Prop := ∀ n v, look n f = some v → ∃ u, tmps[n]? = some u ∧ Rep F v u
theorem RepF.mono {F F' : Fro} {f : Fr} {tmps : Array Value} (hF : FLe F F') (h : RepF F f tmps) : RepF F' f tmps := fun n v hn => let ⟨u, a, b⟩ := h n v hn; ⟨u, a, b.mono hF⟩
def Holds (F : Fro) (w : World) (k : Nat) : HO → Prop
  | .blk sz es => (F.r k = some none ∧ es = []) ∨ ∃ g tot us t fr, F.r k = some (some (g, tot)) ∧ F.f g = none ∧ w.heap[g]? = some (.cells us t fr) ∧ NoFr us fr ∧ us.size = tot ∧ RepR F sz es us.toList
  | .obj o => ∃ g tot, F.r k = some (some (g, tot)) ∧ F.f g = none ∧ w.heap[g]? = some o
  | .lp N f r => ∃ g tot tmps, F.r k = some (some (g, tot)) ∧ F.f g = none ∧ w.heap[g]? = some (.loop { r with tmps := tmps }) ∧ tmps.size = N ∧ RepF F f tmps
  | .tab g vs => F.r k = some none ∧ ∃ t fr, F.f g = some (.cells vs.toArray t fr)

/-- Some names say of what type the block is, and how many cells it has (the type's number a thousand times, and the cells): how often 2 goes into half of an odd one. -/
def v2 : Nat → Nat → Nat
  | 0, _ => 0
  | fuel + 1, n => if n % 2 = 1 then 0 else v2 fuel (n / 2) + 1
def nameT (k : Nat) : Option TypeId := if k % 2 = 0 then none else some (v2 k ((k + 1) / 2))
theorem v2_pow (b : Nat) : ∀ (T fuel : Nat), T < fuel → v2 fuel (2 ^ T * (2 * b + 1)) = T
  | 0, fuel + 1, _ => by
    rw [v2, Nat.pow_zero, Nat.one_mul, if_pos (by omega)]
  | T + 1, fuel + 1, h => by
    have e : 2 ^ (T + 1) * (2 * b + 1) = 2 * (2 ^ T * (2 * b + 1)) := by rw [Nat.pow_succ, Nat.mul_comm (2 ^ T) 2, Nat.mul_assoc]
    rw [v2, e, if_neg (by omega), show 2 * (2 ^ T * (2 * b + 1)) / 2 = 2 ^ T * (2 * b + 1) by omega, v2_pow b T fuel (by omega)]
theorem lt_pow2 (T : Nat) : T < 2 ^ T := Nat.lt_two_pow_self
/-- A name of a type, as great as one likes. -/
theorem nameT_ex (b : Nat) (T : TypeId) : ∃ k, b ≤ k ∧ nameT k = some T := by
  have h1 : 1 ≤ 2 ^ T := Nat.one_le_two_pow
  have h2 := lt_pow2 T
  have h4 : 2 * b + 1 ≤ 2 ^ T * (2 * b + 1) := Nat.le_mul_of_pos_left _ h1
  have h5 : 2 ^ T ≤ 2 ^ T * (2 * b + 1) := Nat.le_mul_of_pos_right _ (by omega)
  refine ⟨2 * (2 ^ T * (2 * b + 1)) - 1, by omega, ?_⟩
  unfold nameT
  rw [if_neg (by omega), show (2 * (2 ^ T * (2 * b + 1)) - 1 + 1) / 2 = 2 ^ T * (2 * b + 1) by omega, v2_pow b T _ (by omega)]
structure Sim (base : World) (F : Fro) (h : Hp) (w : World) : Prop where
  below : Below base.heap.size base w
  fro : ∀ g o, F.f g = some o → w.heap[g]? = some o
  adr : ∀ k g tot, F.r k = some (some (g, tot)) → base.heap.size ≤ g ∧ g < w.heap.size
  inj : ∀ k k' g t t', F.r k = some (some (g, t)) → F.r k' = some (some (g, t')) → k = k'
  fresh : ∃ b, ∀ k, b ≤ k → F.r k = none
  nodup : (h.map Prod.fst).Nodup
  own : ∀ k c, (k, c) ∈ h → Holds F w k c
  typ : ∀ k g tot T, F.r k = some (some (g, tot)) → nameT k = some T → ∃ n, w.shape? g = some (T / 1000, n) ∧ (T % 1000 = 0 ∨ n = T % 1000)

/-- A frame, seen. -/
structure VAct where
  tmps : List V
  defers : List Deferred
  start : Fro
/-- What stands beside the temporaries. -/
def VAct.rest (a : VAct) : List Deferred × Fro := (a.defers, a.start)
/-- The deferred calls are the marks of loops over functions alone, laid since G; each one's block is empty. -/
def Marks (F G : Fro) (ds : List Deferred) : Prop := ds.Nodup ∧ ∀ d ∈ ds, ∃ r k tot, d = { target := .collected r, args := #[] } ∧ G.f r = none ∧ F.f r = some (.deferred (some [])) ∧ F.r k = some (some (r, tot))
theorem Marks.nil (F G : Fro) : Marks F G [] := ⟨.nil, fun d h => by cases h⟩
theorem Marks.mono {F F' G : Fro} {ds : List Deferred} (hF : FLe F F') (h : Marks F G ds) : Marks F' G ds :=
  ⟨h.1, fun d hd => let ⟨r, k, tot, a, b, c, e⟩ := h.2 d hd; ⟨r, k, tot, a, b, hF.1 _ _ c, hF.2 _ _ e⟩⟩

def constV : Value → V
  | .agg us => .agg (us.toList.map .v)
  | .tuple us => .tup (us.toList.map .v)
  | x => .v x

theorem RepL.lits {F : Fro} : ∀ zs : List Value, RepL F (zs.map .v) zs
  | [] => .nil
  | z :: zs => .cons _ _ _ _ (.v z) (RepL.lits zs)

theorem constV_rep (F : Fro) (x : Value) : Rep F (constV x) x := by
  cases x <;> first | exact .v _ | exact .agg _ _ (RepL.lits _) | exact .tup _ _ (RepL.lits _)

def VAct.eval (a : VAct) : Operand → V
  | .tmp t => a.tmps.getD t (.v undef)
  | .const x => constV x
  | .global g => .v (.pointer (some ⟨g, 0, none⟩))
  | .func f => .v (.func (.func f) #[] #[])

def VAct.put (a : VAct) (dst : Option Tmp) (x : V) : VAct :=
  match dst with
  | some d => { a with tmps := a.tmps.set d x }
  | none => a

structure RepAct (F : Fro) (a : VAct) (act : Act) : Prop where
  tmps : RepL F a.tmps act.tmps.toList
  defers : a.defers = act.defers
  start : FLe a.start F
  marks : Marks F a.start a.defers

theorem RepL.length {F : Fro} : ∀ {xs : List V} {us : List Value}, RepL F xs us → xs.length = us.length
  | _, _, .nil => rfl
  | _, _, .cons _ _ _ _ _ k => by simp [k.length]

theorem RepL.getD {F : Fro} {d : Value} : ∀ {xs : List V} {us : List Value}, RepL F xs us → ∀ i, Rep F (xs.getD i (.v d)) (us.getD i d)
  | _, _, .nil, i => by simpa using Rep.v d
  | _, _, .cons _ _ _ _ h k, 0 => by simpa using h
  | _, _, .cons _ _ _ _ h k, i + 1 => by simpa using k.getD i

theorem RepL.set {F : Fro} {x : V} {u : Value} (hx : Rep F x u) : ∀ {xs : List V} {us : List Value}, RepL F xs us → ∀ i, RepL F (xs.set i x) (us.set i u)
  | _, _, .nil, i => by simpa using RepL.nil
  | _, _, .cons _ _ _ _ h k, 0 => by simpa using RepL.cons _ _ _ _ hx k
  | _, _, .cons _ _ _ _ h k, i + 1 => by simpa using RepL.cons _ _ _ _ h (k.set hx i)

theorem RepL.get {F : Fro} : ∀ {xs : List V} {us : List Value}, RepL F xs us → ∀ {i : Nat} {x : V}, xs[i]? = some x → ∃ u, us[i]? = some u ∧ Rep F x u
  | _, _, .nil, i, x, h => by simp at h
  | _, _, .cons _ u _ _ h k, 0, x, hi => by simp at hi; subst hi; exact ⟨u, by simp, h⟩
  | _, _, .cons _ _ _ _ h k, i + 1, x, hi => by simp at hi; simpa using k.get hi

theorem RepL.append {F : Fro} : ∀ {xs ys : List V} {us vs : List Value}, RepL F xs us → RepL F ys vs → RepL F (xs ++ ys) (us ++ vs)
  | _, _, _, _, .nil, k => by simpa using k
  | _, _, _, _, .cons _ _ _ _ h h', k => by simpa using RepL.cons _ _ _ _ h (h'.append k)

theorem RepL.take {F : Fro} : ∀ {xs : List V} {us : List Value}, RepL F xs us → ∀ n, RepL F (xs.take n) (us.take n)
  | _, _, .nil, n => by simpa using RepL.nil
  | _, _, .cons _ _ _ _ h k, 0 => by simpa using RepL.nil
  | _, _, .cons _ _ _ _ h k, n + 1 => by simpa using RepL.cons _ _ _ _ h (k.take n)

theorem RepL.drop {F : Fro} : ∀ {xs : List V} {us : List Value}, RepL F xs us → ∀ n, RepL F (xs.drop n) (us.drop n)
  | _, _, .nil, n => by simpa using RepL.nil
  | _, _, h@(.cons _ _ _ _ _ _), 0 => by simpa using h
  | _, _, .cons _ _ _ _ h k, n + 1 => by simpa using k.drop n

theorem RepL.toP {F : Fro} : ∀ {xs : List V} {us : List Value}, RepL F xs us → RepP F xs us
  | _, _, .nil => .nil _
  | _, _, .cons _ _ _ _ h k => .cons _ _ _ _ h k.toP

theorem RepP.toL {F : Fro} : ∀ {xs : List V} {us : List Value}, RepP F xs us → xs.length ≤ us.length ∧ RepL F xs (us.take xs.length)
  | _, _, .nil _ => by simpa using RepL.nil
  | _, _, .cons _ _ _ _ h k => by
    obtain ⟨h1, h2⟩ := k.toL
    exact ⟨by simpa using h1, by simpa using RepL.cons _ _ _ _ h h2⟩

/-- Every value fits 'any'. -/
inductive VLe : V → V → Prop
  | refl (x : V) : VLe x x
  | any (x : V) : VLe x .any
  | nilrow (sz : Nat) : VLe (.v (.slice none 0 0)) (.row sz [])
  | nilosl (sz k : Nat) : VLe (.v (.slice none 0 0)) (.osl sz k 0 0)

inductive VLeL : List V → List V → Prop
  | nil : VLeL [] []
  | cons (x y : V) (xs ys : List V) : VLe x y → VLeL xs ys → VLeL (x :: xs) (y :: ys)

theorem Rep.weak {F : Fro} {x y : V} {u : Value} (h : Rep F x u) (hl : VLe x y) : Rep F y u := by
  cases hl with
  | refl => exact h
  | any => exact .any u
  | nilrow sz => cases h; exact .row0 sz none 0
  | nilosl sz k => cases h; exact .osl0 sz k 0 none

theorem RepL.weak {F : Fro} : ∀ {xs ys : List V} {us : List Value}, RepL F xs us → VLeL xs ys → RepL F ys us
  | _, _, _, .nil, .nil => .nil
  | _, _, _, .cons _ _ _ _ h k, .cons _ _ _ _ l m => .cons _ _ _ _ (h.weak l) (k.weak m)

theorem RepP.get {F : Fro} : ∀ {xs : List V} {us : List Value}, RepP F xs us → ∀ {i : Nat} {x : V}, xs[i]? = some x → ∃ u, us[i]? = some u ∧ Rep F x u
  | _, _, .nil _, i, x, h => by simp at h
  | _, _, .cons _ u _ _ h k, 0, x, hi => by simp at hi; subst hi; exact ⟨u, by simp, h⟩
  | _, _, .cons _ _ _ _ h k, i + 1, x, hi => by simp at hi; simpa using k.get hi

theorem RepP.drop {F : Fro} : ∀ {xs : List V} {us : List Value}, RepP F xs us → ∀ n, RepP F (xs.drop n) (us.drop n)
  | _, _, .nil _, n => by simpa using RepP.nil _
  | _, _, h@(.cons _ _ _ _ _ _), 0 => by simpa using h
  | _, _, .cons _ _ _ _ h k, n + 1 => by simpa using k.drop n

theorem RepP.take {F : Fro} : ∀ {xs : List V} {us : List Value}, RepP F xs us → ∀ n, RepP F (xs.take n) us
  | _, _, .nil _, n => by simpa using RepP.nil _
  | _, _, .cons _ _ _ _ h k, 0 => by simpa using RepP.nil _
  | _, _, .cons _ _ _ _ h k, n + 1 => by simpa using RepP.cons _ _ _ _ h (k.take n)

theorem RepP.set {F : Fro} {x : V} {u : Value} (hx : Rep F x u) : ∀ {xs : List V} {us : List Value}, RepP F xs us → ∀ i, RepP F (xs.set i x) (us.set i u)
  | _, _, .nil _, i => by simpa using RepP.nil _
  | _, _, .cons _ _ _ _ h k, 0 => by simpa using RepP.cons _ _ _ _ hx k
  | _, _, .cons _ _ _ _ h k, i + 1 => by simpa using RepP.cons _ _ _ _ h (k.set hx i)

theorem RepP.weak {F : Fro} : ∀ {xs ys : List V} {us : List Value}, RepP F xs us → VLeL xs ys → RepP F ys us
  | _, _, _, .nil _, .nil => .nil _
  | _, _, _, .cons _ _ _ _ h k, .cons _ _ _ _ l m => .cons _ _ _ _ (h.weak l) (k.weak m)

theorem RepP.len {F : Fro} {xs : List V} {us : List Value} (h : RepP F xs us) : xs.length ≤ us.length := h.toL.1

theorem RepL.ofP {F : Fro} : ∀ {xs : List V} {us : List Value}, RepP F xs us → xs.length = us.length → RepL F xs us
  | _, _, .nil us, h => by
    have : us = [] := List.length_eq_zero_iff.1 (by simpa using h.symm)
    subst this; exact .nil
  | _, _, .cons _ _ _ _ h k, hl => .cons _ _ _ _ h (RepL.ofP k (by simpa using hl))

theorem RepP.appendP {F : Fro} : ∀ {xs ys : List V} {us vs : List Value}, RepL F xs us → RepP F ys vs → RepP F (xs ++ ys) (us ++ vs)
  | _, _, _, _, .nil, k => by simpa using k
  | _, _, _, _, .cons _ _ _ _ h h', k => by simpa using RepP.cons _ _ _ _ h (RepP.appendP h' k)

theorem RepAct.eval {F : Fro} {a : VAct} {act : Act} (h : RepAct F a act) (x : Operand) : Rep F (a.eval x) (act.eval x) := by
  cases x with
  | tmp t =>
    have := h.tmps.getD (d := undef) t
    simpa [VAct.eval, Act.eval] using this
  | const v => exact constV_rep _ _
  | global g => exact .v _
  | func f => exact .v _

theorem RepAct.put {F : Fro} {a : VAct} {act : Act} (h : RepAct F a act) (dst : Option Tmp) {x : V} {u : Value} (hx : Rep F x u) : RepAct F (a.put dst x) (act.put dst u) := by
  cases dst with
  | none => exact h
  | some d => exact ⟨by simpa [VAct.put, Act.put] using h.tmps.set hx d, h.defers, h.start, h.marks⟩

theorem RepAct.mono {F F' : Fro} {a : VAct} {act : Act} (hF : FLe F F') (h : RepAct F a act) : RepAct F' a act := ⟨h.tmps.mono hF, h.defers, h.start.trans hF, h.marks.mono hF⟩

theorem VLeL.refl : ∀ xs : List V, VLeL xs xs
  | [] => .nil
  | x :: xs => .cons x x xs xs (.refl x) (VLeL.refl xs)

end Go.XW
