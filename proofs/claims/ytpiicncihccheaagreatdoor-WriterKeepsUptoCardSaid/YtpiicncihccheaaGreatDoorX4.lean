/- Operations over views that look at no block of the call's own: what they come to, as conditions; each shown against the machine. -/
import Derived.Test.YtpiicncihccheaaGreatDoorX3
set_option linter.unusedVariables false
namespace Go.XW
open Go.RowKit

/-! ### Heads of conditions -/
/-- A condition beside the way. -/
structure Sd (p q : Prop) : Prop where
  l : p
  r : q
/-- Two ways. -/
structure Br (b : Bool) (A B : Prop) : Prop where
  t : b = true → A
  f : b = false → B
def inK (k : IntKind) (x : Int) : Prop :=
  match k with
  | .i64 => -9223372036854775808 ≤ x ∧ x ≤ 9223372036854775807
  | .i32 => -2147483648 ≤ x ∧ x ≤ 2147483647
  | .i16 => -32768 ≤ x ∧ x ≤ 32767
  | .i8 => -128 ≤ x ∧ x ≤ 127
  | .u64 => 0 ≤ x ∧ x ≤ 18446744073709551615
  | .u32 => 0 ≤ x ∧ x ≤ 4294967295
  | .u16 => 0 ≤ x ∧ x ≤ 65535
  | .u8 => 0 ≤ x ∧ x ≤ 255
theorem wrap_in {k : IntKind} {x : Int} (h : inK k x) : k.wrap x = x := by
  cases k <;> simp only [inK] at h <;> simp [IntKind.wrap, IntKind.bits, IntKind.signed] <;> first | omega | (split <;> omega)
/-- A number on the wheel of its kind. -/
inductive Wr (k : IntKind) (x : Int) (K : Int → Prop) : Prop
  | inn : inK k x → K x → Wr k x K
  | wrap : K (k.wrap x) → Wr k x K
theorem Wr.get {k : IntKind} {x : Int} {K : Int → Prop} (h : Wr k x K) : K (k.wrap x) := by
  cases h with
  | inn h1 h2 => rw [wrap_in h1]; exact h2
  | wrap h => exact h
inductive Dv (a b : Int) (K : Int → Prop) : Prop
  | nn : 0 ≤ a → 0 < b → K (a / b) → Dv a b K
  | raw : b ≠ 0 → K (a.tdiv b) → Dv a b K
theorem Dv.get {a b : Int} {K : Int → Prop} (h : Dv a b K) : b ≠ 0 ∧ K (a.tdiv b) := by
  cases h with
  | nn h1 h2 h3 => exact ⟨by omega, by rwa [Int.tdiv_eq_ediv_of_nonneg h1]⟩
  | raw h1 h2 => exact ⟨h1, h2⟩
inductive Md (a b : Int) (K : Int → Prop) : Prop
  | nn : 0 ≤ a → 0 < b → K (a % b) → Md a b K
  | raw : b ≠ 0 → K (a.tmod b) → Md a b K
theorem Md.get {a b : Int} {K : Int → Prop} (h : Md a b K) : b ≠ 0 ∧ K (a.tmod b) := by
  cases h with
  | nn h1 h2 h3 => exact ⟨by omega, by rwa [Int.tmod_eq_emod_of_nonneg h1]⟩
  | raw h1 h2 => exact ⟨h1, h2⟩
/-- A count that isn't below 0. -/
inductive Ix (i : Int) (K : Nat → Prop) : Prop
  | mk (n : Nat) : i = (n : Int) → K n → Ix i K
inductive Len (es : List (List V)) (K : Nat → Prop) : Prop
  | mk (n : Nat) : es.length = n → K n → Len es K
inductive At (es : List (List V)) (i : Nat) (K : List V → Prop) : Prop
  | mk (e : List V) : es[i]? = some e → K e → At es i K
inductive Sub (es : List (List V)) (i j : Nat) (K : List (List V) → Prop) : Prop
  | mk (es' : List (List V)) : (es.take j).drop i = es' → K es' → Sub es i j K

/-- A text, by its bytes. -/
abbrev str (l : List UInt8) : Value := .string ⟨⟨l⟩⟩
abbrev int (n : Int) : V := .v (.int .i64 n)
abbrev vstr (l : List UInt8) : V := .v (.string ⟨⟨l⟩⟩)
abbrev vbool (b : Bool) : V := .v (.bool b)
abbrev vnil : V := .v (.slice none 0 0)

/-- All of a list, told one by one. -/
def forceL : List V → (List V → Prop) → Prop
  | [], K => K []
  | x :: xs, K => forceL xs fun ys => K (x :: ys)
theorem forceL_iff : ∀ (l : List V) (K : List V → Prop), forceL l K ↔ K l
  | [], K => Iff.rfl
  | x :: xs, K => forceL_iff xs _

/-- One cell's view, nothing else. -/
def oneK (x : V) (p : Prop) : Prop :=
  match x with
  | .any => False
  | .tup _ => False
  | .agg _ => False
  | .v u => match u.oneCell' with | true => p | false => False
  | _ => p
theorem oneK_get {x : V} {p : Prop} (h : oneK x p) : x.one = true ∧ p := by
  unfold oneK at h
  cases x <;> simp only [V.one] <;> first | exact h.elim | exact ⟨trivial, h⟩ | skip
  rename_i u
  dsimp only at h
  split at h
  · exact ⟨by assumption, h⟩
  · exact h.elim
def onesK : List V → Prop → Prop
  | [], p => p
  | x :: xs, p => oneK x (onesK xs p)
theorem onesK_get : ∀ {xs : List V} {p : Prop}, onesK xs p → xs.all V.one = true ∧ p
  | [], p, h => ⟨rfl, h⟩
  | x :: xs, p, h => by
    obtain ⟨h1, h2⟩ := oneK_get h
    obtain ⟨h3, h4⟩ := onesK_get h2
    exact ⟨by simp [h1]; simpa using h3, h4⟩

/-! ### Arithmetic -/
def intK (op : BinOp) (k : IntKind) (a b : Int) (K : V → Prop) : Prop :=
  match op with
  | .add => Wr k (a + b) fun z => K (.v (.int k z))
  | .sub => Wr k (a - b) fun z => K (.v (.int k z))
  | .mul => Wr k (a * b) fun z => K (.v (.int k z))
  | .quo => Dv a b fun q => Wr k q fun z => K (.v (.int k z))
  | .rem => Md a b fun z => K (.v (.int k z))
  | .and => K (.v (.int k (bits .and k a b)))
  | .or => K (.v (.int k (bits .or k a b)))
  | .xor => K (.v (.int k (bits .xor k a b)))
  | .andNot => K (.v (.int k (bits .andNot k a b)))
  | .eql => K (.v (.bool (decide (a = b))))
  | .neq => K (.v (.bool (!decide (a = b))))
  | .lss => K (.v (.bool (decide (a < b))))
  | .leq => K (.v (.bool (decide (a ≤ b))))
  | .gtr => K (.v (.bool (decide (b < a))))
  | .geq => K (.v (.bool (decide (b ≤ a))))
  | _ => False

def strK (op : BinOp) (a b : List UInt8) (K : V → Prop) : Prop :=
  match op with
  | .add => Sd (a.length + b.length ≤ 9223372036854775807) (K (vstr (a ++ b)))
  | .eql => K (.v (.bool (decide (a = b))))
  | .neq => K (.v (.bool (!decide (a = b))))
  | .lss => K (.v (.bool (Op.bytesLess a b)))
  | .leq => K (.v (.bool (!Op.bytesLess b a)))
  | .gtr => K (.v (.bool (Op.bytesLess b a)))
  | .geq => K (.v (.bool (!Op.bytesLess a b)))
  | _ => False

def kEq (k k' : IntKind) : Bool := Nat.beq k.ctorIdx k'.ctorIdx
theorem kEq_eq {k k' : IntKind} (h : kEq k k' = true) : k = k' := by cases k <;> cases k' <;> first | rfl | cases h

def shK (op : BinOp) (k : IntKind) (a b : Int) (K : V → Prop) : Prop :=
  match op with
  | .shl => Sd (0 ≤ b) (Wr k (a * 2 ^ (min b.toNat k.bits)) fun z => K (.v (.int k z)))
  | .shr => Sd (0 ≤ b) (K (.v (.int k (a.fdiv (2 ^ (min b.toNat k.bits))))))
  | _ => False
def isSh : BinOp → Bool
  | .shl | .shr => true
  | _ => false

def binK (op : BinOp) (x y : V) (K : V → Prop) : Prop :=
  match x, y with
  | .v (.int k a), .v (.int k' b) => bif isSh op then shK op k a b K else bif kEq k k' then intK op k a b K else False
  | .v (.string ⟨⟨a⟩⟩), .v (.string ⟨⟨b⟩⟩) => strK op a b K
  | _, _ => False

def binbK (op : BinOp) (x y : V) (K : V → Prop) : Prop :=
  match x, y with
  | .v (.bool a), .v (.bool b) => match op with
    | .eql => K (.v (.bool (a == b)))
    | .neq => K (.v (.bool (a != b)))
    | _ => False
  | _, _ => False

theorem toList_data (s : ByteArray) : s.toList = s.data.toList := by
  have key : ∀ (n i : Nat) (r : List UInt8), s.size - i = n → ByteArray.toList.loop s i r = r.reverse ++ s.data.toList.drop i := by
    intro n
    induction n with
    | zero =>
      intro i r h
      unfold ByteArray.toList.loop
      have hi : ¬ i < s.size := by omega
      rw [if_neg hi]
      have : s.data.toList.drop i = [] := List.drop_eq_nil_of_le (by simpa using Nat.le_of_not_lt hi)
      simp [this]
    | succ n ih =>
      intro i r h
      unfold ByteArray.toList.loop
      have hi : i < s.size := by omega
      rw [if_pos hi, ih (i + 1) _ (by omega)]
      have hl : i < s.data.toList.length := by simpa using hi
      rw [List.drop_eq_getElem_cons hl]
      have : s.get! i = s.data.toList[i] := by
        have h2 : i < s.data.size := hi
        simp [ByteArray.get!, getElem!_pos s.data i h2]
      simp [this]
  have := key s.size 0 [] (by omega)
  simpa [ByteArray.toList] using this

theorem bytesLess_total : ∀ a b : List UInt8, (Op.bytesLess a b || a == b) = !Op.bytesLess b a
  | [], [] => rfl
  | [], _ :: _ => rfl
  | _ :: _, [] => rfl
  | a :: x, b :: y => by
    have ih := bytesLess_total x y
    simp only [Op.bytesLess]
    by_cases h1 : a < b
    · have h2 : ¬ b < a := by rw [UInt8.lt_iff_toNat_lt] at *; omega
      have h3 : ¬ b = a := by intro h; subst h; exact h2 h1
      simp [h1, h2, h3]
    · by_cases h2 : b < a
      · have h3 : ¬ a = b := by intro h; subst h; exact h1 h2
        simp [h1, h2, h3]
      · have h3 : a = b := by
          rw [UInt8.lt_iff_toNat_lt] at h1 h2
          exact UInt8.toNat_inj.1 (by omega)
        subst h3
        simp only [h1, decide_false, Bool.false_or, beq_self_eq_true, Bool.true_and]
        rw [← ih]
        simp

/-- Two numbers, at the machine. -/
theorem int_run {P : Program} {op : BinOp} {t : TypeId} {x y : Operand} {k : IntKind} {a b : Int} {K : V → Prop} (hop : isSh op = false) (h : intK op k a b K) :
    ∃ r, (∀ w, ((do eqGuard op t x y (.int k a) (.int k b); binOp op t (.int k a) (.int k b)) : Sem Value).run P w = .ok r w) ∧ K (.v r) := by
  have hg : ∀ w, (eqGuard op t x y (.int k a) (.int k b)).run P w = .ok () w := fun w => by cases op <;> simp [eqGuard]
  have key : ∀ r, (∀ w, (binOp op t (.int k a) (.int k b)).run P w = .ok r w) → ∀ w, ((do eqGuard op t x y (.int k a) (.int k b); binOp op t (.int k a) (.int k b)) : Sem Value).run P w = .ok r w := fun r hr w => by
    rw [Sem.run_bind, hg w]; exact hr w
  cases op
  case add => exact ⟨_, key _ (fun w => by simp [binOp, Op.intArith]), Wr.get h⟩
  case sub => exact ⟨_, key _ (fun w => by simp [binOp, Op.intArith]), Wr.get h⟩
  case mul => exact ⟨_, key _ (fun w => by simp [binOp, Op.intArith]), Wr.get h⟩
  case quo => obtain ⟨h1, h2⟩ := Dv.get h; exact ⟨_, key _ (fun w => by simp [binOp, Op.intDiv, h1]), Wr.get h2⟩
  case rem => obtain ⟨h1, h2⟩ := Md.get h; exact ⟨_, key _ (fun w => by simp [binOp, Op.intDiv, h1]), h2⟩
  case and => exact ⟨_, key _ (fun w => by simp [binOp, Op.intBits, bits]), h⟩
  case or => exact ⟨_, key _ (fun w => by simp [binOp, Op.intBits, bits]), h⟩
  case xor => exact ⟨_, key _ (fun w => by simp [binOp, Op.intBits, bits]), h⟩
  case andNot => exact ⟨_, key _ (fun w => by simp [binOp, Op.intBits, bits]), h⟩
  case lss => exact ⟨_, key _ (fun w => by simp [binOp, Op.intCmp]), h⟩
  case leq => exact ⟨_, key _ (fun w => by simp [binOp, Op.intCmp]), h⟩
  case gtr => exact ⟨_, key _ (fun w => by simp [binOp, Op.intCmp]), h⟩
  case geq => exact ⟨_, key _ (fun w => by simp [binOp, Op.intCmp]), h⟩
  case eql => exact ⟨_, key _ (fun w => by simp [binOp, Op.intCmp]; rw [Bool.eq_iff_iff]; simp), h⟩
  case neq => exact ⟨_, key _ (fun w => by simp [binOp, Op.intCmp]; rw [Bool.eq_iff_iff]; simp), h⟩
  all_goals exact False.elim h

theorem sh_run {P : Program} {op : BinOp} {t : TypeId} {x y : Operand} {k k' : IntKind} {a b : Int} {K : V → Prop} (h : shK op k a b K) :
    ∃ r, (∀ w, ((do eqGuard op t x y (.int k a) (.int k' b); binOp op t (.int k a) (.int k' b)) : Sem Value).run P w = .ok r w) ∧ K (.v r) := by
  cases op <;> simp only [shK] at h <;> first
    | exact h.elim
    | skip
  · obtain ⟨h1, h2⟩ := h
    refine ⟨_, fun w => ?_, h2.get⟩
    have : ¬ b < 0 := by omega
    simp [eqGuard, binOp, Op.shift, this]
  · obtain ⟨h1, h2⟩ := h
    refine ⟨_, fun w => ?_, h2⟩
    have : ¬ b < 0 := by omega
    simp [eqGuard, binOp, Op.shift, this]

theorem str_run {P : Program} {op : BinOp} {t : TypeId} {x y : Operand} {a b : List UInt8} {K : V → Prop} (h : strK op a b K) :
    ∃ r, (∀ w, ((do eqGuard op t x y (str a) (str b); binOp op t (str a) (str b)) : Sem Value).run P w = .ok r w) ∧ K (.v r) := by
  have hg : ∀ w, (eqGuard op t x y (str a) (str b)).run P w = .ok () w := fun w => by cases op <;> simp [eqGuard]
  have key : ∀ r, (∀ w, (binOp op t (str a) (str b)).run P w = .ok r w) → ∀ w, ((do eqGuard op t x y (str a) (str b); binOp op t (str a) (str b)) : Sem Value).run P w = .ok r w := fun r hr w => by
    rw [Sem.run_bind, hg w]; exact hr w
  have t1 : ∀ l : List UInt8, (ByteArray.mk (Array.mk l)).toList = l := fun l => toList_data _
  have tot := bytesLess_total
  cases op <;> simp only [strK] at h <;> first
    | exact h.elim
    | skip
  · obtain ⟨h1, h2⟩ := h
    refine ⟨_, key _ (fun w => ?_), h2⟩
    have hn : ¬ (((a.length + b.length : Nat) : Int) > IntKind.i64.max) := by
      have : IntKind.i64.max = 9223372036854775807 := by decide
      omega
    have hn' : ¬ ((((ByteArray.mk (Array.mk a)).size + (ByteArray.mk (Array.mk b)).size : Nat) : Int) > IntKind.i64.max) := hn
    simp only [binOp, Op.stringOp, hn', Sem.run_pure, if_false]
    rfl
  all_goals refine ⟨_, key _ (fun w => ?_), h⟩
  all_goals simp only [binOp, Op.stringOp, t1, Sem.run_pure]
  · congr 2; rw [Bool.eq_iff_iff]; simp
  · congr 2; rw [Bool.eq_iff_iff]; simp
  · congr 2; rw [tot]
  · congr 2; rw [tot]; simp

theorem bin_run {P : Program} {op : BinOp} {t : TypeId} {x y : Operand} {vx vy : V} {K : V → Prop} (h : binK op vx vy K) :
    ∃ a b r, vx = .v a ∧ vy = .v b ∧ (∀ w, ((do eqGuard op t x y a b; binOp op t a b) : Sem Value).run P w = .ok r w) ∧ K (.v r) := by
  unfold binK at h
  split at h
  · rename_i k a k' b
    cases hs : isSh op with
    | true =>
      rw [hs] at h
      obtain ⟨r, h1, h2⟩ := sh_run (P := P) (t := t) (x := x) (y := y) (k' := k') h
      exact ⟨_, _, r, rfl, rfl, h1, h2⟩
    | false =>
      rw [hs] at h
      cases hk : kEq k k' with
      | true =>
        rw [hk] at h
        have := kEq_eq hk
        subst this
        obtain ⟨r, h1, h2⟩ := int_run (P := P) (t := t) (x := x) (y := y) hs h
        exact ⟨_, _, r, rfl, rfl, h1, h2⟩
      | false => rw [hk] at h; exact h.elim
  · obtain ⟨r, h1, h2⟩ := str_run (P := P) (t := t) (x := x) (y := y) h
    exact ⟨_, _, r, rfl, rfl, h1, h2⟩
  · exact h.elim

theorem equal_bool {P : Program} {t : TypeId} {p q : Bool} (ht : P.underlying t = some .bool) (w : World) : (Op.equal t (.bool p) (.bool q)).run P w = .ok (p == q) w := by
  have : ∀ d, (Op.equalIn (d + 1) t (.bool p) (.bool q)).run P w = .ok (p == q) w := fun d => by
    simp [Op.equalIn, run_underlying ht]
  exact this 9999

theorem binb_run {P : Program} {op : BinOp} {t : TypeId} {x y : Operand} {vx vy : V} {K : V → Prop} (ht : P.underlying t = some .bool) (h : binbK op vx vy K) :
    ∃ a b r, vx = .v a ∧ vy = .v b ∧ (∀ w, ((do eqGuard op t x y a b; binOp op t a b) : Sem Value).run P w = .ok r w) ∧ K (.v r) := by
  unfold binbK at h
  split at h
  · rename_i p q
    split at h
    · refine ⟨_, _, _, rfl, rfl, fun w => ?_, h⟩
      have h1 : (eqGuard .eql t x y (.bool p) (.bool q)).run P w = .ok () w := rfl
      have h2 : binOp .eql t (.bool p) (.bool q) = (do pure (.bool (← Op.equal t (.bool p) (.bool q)))) := by unfold binOp; rfl
      rw [Sem.run_bind, h1, h2]
      simp [equal_bool ht]
    · refine ⟨_, _, _, rfl, rfl, fun w => ?_, h⟩
      have h1 : (eqGuard .neq t x y (.bool p) (.bool q)).run P w = .ok () w := rfl
      have h2 : binOp .neq t (.bool p) (.bool q) = (do pure (.bool (!(← Op.equal t (.bool p) (.bool q))))) := by unfold binOp; rfl
      rw [Sem.run_bind, h1, h2]
      simp [equal_bool ht, bne]
    · exact h.elim
  · exact h.elim
end Go.XW
