/- Whole numbers and their digits: plain laws, no program. -/
import Derived.Test.YtpiihodkonegbaaXG
set_option linter.unusedVariables false
namespace Go.XW.DI
open Go.RowKit Go.XW

def Bytes (ns : List Int) : Prop := ∀ n ∈ ns, 0 ≤ n ∧ n ≤ 255
theorem Bytes.nil : Bytes [] := fun _ h => by cases h
theorem Bytes.cons {n : Int} {ns : List Int} (h1 : 0 ≤ n ∧ n ≤ 255) (h2 : Bytes ns) : Bytes (n :: ns) := fun m hm => by
  rcases List.mem_cons.1 hm with rfl | hm
  · exact h1
  · exact h2 m hm
theorem Bytes.drop {ns : List Int} (h : Bytes ns) (k : Nat) : Bytes (ns.drop k) := fun n hn => h n (List.mem_of_mem_drop hn)
theorem Bytes.take {ns : List Int} (h : Bytes ns) (k : Nat) : Bytes (ns.take k) := fun n hn => h n (List.mem_of_mem_take hn)
theorem Bytes.append {ns ms : List Int} (h : Bytes ns) (h2 : Bytes ms) : Bytes (ns ++ ms) := fun n hn => by
  rcases List.mem_append.1 hn with hn | hn
  · exact h n hn
  · exact h2 n hn
def lexLess : List Int → List Int → Bool
  | _, [] => false
  | [], _ :: _ => true
  | a :: x, b :: y => decide (a < b) || (decide (a = b) && lexLess x y)
def digs (ns : List Int) : Bool := ns.all fun n => decide (48 ≤ n) && decide (n ≤ 57)
/-- Without the sign. -/
def body (ns : List Int) : List Int := if ns.head? = some 45 then ns.drop 1 else ns
def fm (ns : List Int) : Bool := decide (ns = [48]) || (decide (body ns ≠ [] ∧ (body ns).head? ≠ some 48) && digs (body ns))
def sizeI (a b : List Int) : Int :=
  if a.length ≠ b.length then (if a.length < b.length then -1 else 1) else if lexLess a b then -1 else if lexLess b a then 1 else 0
def sgn (b : Bool) (ns : List Int) : List Int := if b = true ∧ ns ≠ [48] then 45 :: ns else ns
/-- Without the noughts ahead of the last digit. -/
def strip : List Int → List Int
  | 48 :: x :: xs => strip (x :: xs)
  | xs => xs

theorem strip_step (ns : List Int) (k : Nat) (h : k + 1 < ns.length) (h0 : ns.getD k 0 = 48) : strip (ns.drop k) = strip (ns.drop (k + 1)) := by
  rw [List.drop_eq_getElem_cons (by omega)]
  have h1 : ns[k] = 48 := by simpa [List.getD, show k < ns.length by omega] using h0
  rw [h1, List.drop_eq_getElem_cons (by omega)]
  rfl
theorem strip_ne (y : Int) (ys : List Int) (h : y ≠ 48 ∨ ys = []) : strip (y :: ys) = y :: ys := by
  unfold strip
  split
  · rename_i he; injection he with h1 h2; rcases h with h | h
    · exact absurd h1 h
    · rw [h] at h2; cases h2
  · rfl
theorem strip_end (ns : List Int) (k : Nat) (hk : k < ns.length) (h : ¬ (k + 1 < ns.length ∧ ns.getD k 0 = 48)) : strip (ns.drop k) = ns.drop k := by
  rw [List.drop_eq_getElem_cons hk]
  refine strip_ne _ _ ?_
  by_cases h1 : k + 1 < ns.length
  · exact .inl fun he => h ⟨h1, by simpa [List.getD, hk] using he⟩
  · exact .inr (List.drop_eq_nil_of_le (by omega))

theorem p10_pos (k : Nat) : (0 : Int) < 10 ^ k := Int.pow_pos (by omega)
theorem p10_succ (k : Nat) : (10 : Int) ^ (k + 1) = 10 * 10 ^ k := by rw [Int.pow_succ]; omega
theorem p10_le {j k : Nat} (h : j ≤ k) : (10 : Int) ^ j ≤ 10 ^ k := by
  induction k with
  | zero => have : j = 0 := by omega
            subst this; exact Int.le_refl _
  | succ k ih =>
    by_cases hk : j = k + 1
    · subst hk; exact Int.le_refl _
    · have := ih (by omega); have := p10_pos k; rw [p10_succ]; omega

/-! ### Digits, the lowest first -/
def Dg (l : List Int) : Prop := ∀ d ∈ l, 0 ≤ d ∧ d ≤ 9
def lval : List Int → Int
  | [] => 0
  | d :: l => d + 10 * lval l
theorem Dg.tail {d : Int} {l : List Int} (h : Dg (d :: l)) : Dg l := fun x hx => h x (List.mem_cons_of_mem _ hx)
theorem Dg.head {d : Int} {l : List Int} (h : Dg (d :: l)) : 0 ≤ d ∧ d ≤ 9 := h d (by simp)
theorem Dg.append {a b : List Int} (h : Dg a) (h2 : Dg b) : Dg (a ++ b) := fun x hx => (List.mem_append.1 hx).elim (h x) (h2 x)
theorem lval_nonneg : ∀ {l : List Int}, Dg l → 0 ≤ lval l
  | [], _ => by simp [lval]
  | d :: l, h => by have := lval_nonneg h.tail; have := h.head; simp only [lval]; omega
theorem lval_lt : ∀ {l : List Int}, Dg l → lval l < 10 ^ l.length
  | [], _ => by simp [lval]
  | d :: l, h => by have := lval_lt h.tail; have := h.head; simp only [lval, List.length_cons, p10_succ]; omega
theorem lval_append : ∀ (a b : List Int), lval (a ++ b) = lval a + 10 ^ a.length * lval b
  | [], b => by simp [lval]
  | d :: a, b => by
    have := lval_append a b
    simp only [List.cons_append, lval, List.length_cons, p10_succ, this, Int.mul_add, Int.mul_assoc]; omega
def lod (n : Nat) : List Int := if h : n = 0 then [] else ((n % 10 : Nat) : Int) :: lod (n / 10)
theorem lod_zero : lod 0 = [] := by unfold lod; simp
theorem lod_succ {n : Nat} (h : n ≠ 0) : lod n = ((n % 10 : Nat) : Int) :: lod (n / 10) := by rw [lod, dif_neg h]
theorem lod_dg (n : Nat) : Dg (lod n) := by
  induction n using Nat.strongRecOn with
  | _ n ih =>
    by_cases h : n = 0
    · subst h; rw [lod_zero]; exact fun _ h => by cases h
    · rw [lod_succ h]
      intro d hd
      rcases List.mem_cons.1 hd with rfl | hd
      · omega
      · exact ih (n / 10) (by omega) d hd
theorem lod_val (n : Nat) : lval (lod n) = n := by
  induction n using Nat.strongRecOn with
  | _ n ih =>
    by_cases h : n = 0
    · subst h; rw [lod_zero]; rfl
    · rw [lod_succ h, lval, ih (n / 10) (by omega)]; omega
theorem lod_ne {n : Nat} (h : n ≠ 0) : lod n ≠ [] := by rw [lod_succ h]; simp
theorem lod_last {n : Nat} (h : n ≠ 0) : (lod n).getLast? ≠ some 0 := by
  induction n using Nat.strongRecOn with
  | _ n ih =>
    rw [lod_succ h]
    by_cases h2 : n / 10 = 0
    · rw [h2, lod_zero]; simp; omega
    · have := ih (n / 10) (by omega) h2
      rw [lod_succ h2] at *
      simpa [List.getLast?_cons_cons] using this
theorem lval_pos : ∀ {l : List Int}, Dg l → l ≠ [] → l.getLast? ≠ some 0 → 0 < lval l
  | [d], h, _, h2 => by
    have := h.head
    have : d ≠ 0 := by simpa using h2
    simp only [lval]; omega
  | d :: e :: l, h, _, h2 => by
    have := lval_pos (l := e :: l) h.tail (by simp) (by simpa [List.getLast?_cons_cons] using h2)
    have := h.head
    rw [lval]; omega
theorem lod_unique : ∀ {l : List Int}, Dg l → (l = [] ∨ l.getLast? ≠ some 0) → l = lod (lval l).toNat
  | [], _, _ => by rw [lval]; exact lod_zero.symm
  | [d], h, h2 => by
    have h3 := h.head
    have h4 : d ≠ 0 := by rcases h2 with h2 | h2
                          · cases h2
                          · simpa using h2
    have hv : lval [d] = d := by simp [lval]
    rw [hv, lod_succ (by omega), show d.toNat / 10 = 0 by omega, lod_zero]
    congr 1; omega
  | d :: e :: l, h, h2 => by
    have h3 : (e :: l).getLast? ≠ some 0 := by rcases h2 with h2 | h2
                                               · cases h2
                                               · simpa [List.getLast?_cons_cons] using h2
    have hp := lval_pos h.tail (by simp) h3
    have ih := lod_unique h.tail (.inr h3)
    have hd := h.head
    rw [lval, lod_succ (by omega), show (d + 10 * lval (e :: l)).toNat / 10 = (lval (e :: l)).toNat by omega, ← ih]
    congr 1; omega
theorem lval_inj {a b : List Int} (ha : Dg a) (hb : Dg b) (h1 : a = [] ∨ a.getLast? ≠ some 0) (h2 : b = [] ∨ b.getLast? ≠ some 0) (h : lval a = lval b) : a = b := by
  rw [lod_unique ha h1, lod_unique hb h2, h]

/-! ### Texts of digits, the highest first -/
def Dig (ns : List Int) : Prop := ∀ n ∈ ns, 48 ≤ n ∧ n ≤ 57
def dgs (ns : List Int) : List Int := (ns.map fun n => n - 48).reverse
def dval (ns : List Int) : Int := lval (dgs ns)
theorem Dig.bytes {ns : List Int} (h : Dig ns) : Bytes ns := fun n hn => by have := h n hn; omega
theorem Dig.tail {d : Int} {l : List Int} (h : Dig (d :: l)) : Dig l := fun x hx => h x (List.mem_cons_of_mem _ hx)
theorem Dig.head {d : Int} {l : List Int} (h : Dig (d :: l)) : 48 ≤ d ∧ d ≤ 57 := h d (by simp)
theorem Dig.cons {d : Int} {l : List Int} (h : 48 ≤ d ∧ d ≤ 57) (h2 : Dig l) : Dig (d :: l) := fun x hx => by
  rcases List.mem_cons.1 hx with rfl | hx
  · exact h
  · exact h2 x hx
theorem Dig.drop {l : List Int} (h : Dig l) (k : Nat) : Dig (l.drop k) := fun x hx => h x (List.mem_of_mem_drop hx)
theorem Dig.getD {l : List Int} (h : Dig l) {k : Nat} (hk : k < l.length) : 48 ≤ l.getD k 0 ∧ l.getD k 0 ≤ 57 := by
  simp only [List.getD, List.getElem?_eq_getElem hk, Option.getD_some]
  exact h _ (List.getElem_mem hk)
theorem Dig.dg {ns : List Int} (h : Dig ns) : Dg (dgs ns) := fun d hd => by
  simp only [dgs, List.mem_reverse, List.mem_map] at hd
  obtain ⟨n, hn, rfl⟩ := hd
  have := h n hn; omega
theorem dgs_length (ns : List Int) : (dgs ns).length = ns.length := by simp [dgs]
theorem dval_nil : dval [] = 0 := rfl
theorem dval_cons (d : Int) (ns : List Int) : dval (d :: ns) = dval ns + 10 ^ ns.length * (d - 48) := by
  have : dgs (d :: ns) = dgs ns ++ [d - 48] := by simp [dgs]
  rw [dval, this, lval_append, dgs_length]
  simp [lval, dval]
theorem dval_nonneg {ns : List Int} (h : Dig ns) : 0 ≤ dval ns := lval_nonneg h.dg
theorem dval_lt {ns : List Int} (h : Dig ns) : dval ns < 10 ^ ns.length := by have := lval_lt h.dg; rwa [dgs_length] at this

def decs (n : Nat) : List Int := if n = 0 then [48] else ((lod n).map fun d => d + 48).reverse
theorem decs_dig (n : Nat) : Dig (decs n) := by
  unfold decs; split
  · intro d hd; simp at hd; omega
  · intro d hd
    simp only [List.mem_reverse, List.mem_map] at hd
    obtain ⟨x, hx, rfl⟩ := hd
    have := lod_dg n x hx; omega
theorem decs_ne (n : Nat) : decs n ≠ [] := by
  unfold decs; split
  · simp
  · rename_i h; simp [lod_ne h]
theorem decs_val (n : Nat) : dval (decs n) = n := by
  unfold decs; split
  · rename_i h; subst h; rfl
  · rw [dval, dgs, ← List.map_reverse, List.reverse_reverse, List.map_map]
    have : ((fun n : Int => n - 48) ∘ fun d => d + 48) = id := by funext d; simp
    rw [this, List.map_id, lod_val]
theorem decs_canon {ns : List Int} (h : Dig ns) (hc : ns = [48] ∨ (ns ≠ [] ∧ ns.head? ≠ some 48)) : ns = decs (dval ns).toNat := by
  rcases hc with rfl | ⟨hne, hh⟩
  · rfl
  · have hlast : (dgs ns).getLast? ≠ some 0 := by
      simp only [dgs, List.getLast?_reverse, List.head?_map]
      cases ns with
      | nil => exact absurd rfl hne
      | cons a l =>
        simp only [List.head?_cons, Option.map_some, ne_eq, Option.some.injEq] at *
        omega
    have hu := lod_unique h.dg (.inr hlast)
    have hpos := lval_pos h.dg (by intro hc; have := congrArg List.length hc; rw [dgs_length] at this; exact hne (List.length_eq_zero_iff.1 this)) hlast
    have : (dval ns).toNat ≠ 0 := by unfold dval; omega
    rw [decs, if_neg this]
    have h2 : lod (dval ns).toNat = dgs ns := hu.symm
    rw [h2, dgs, List.map_reverse, List.reverse_reverse, List.map_map]
    have : ((fun d : Int => d + 48) ∘ fun n => n - 48) = id := by funext d; simp
    rw [this, List.map_id]
theorem decs_head (n : Nat) : n = 0 ∨ (decs n).head? ≠ some 48 := by
  by_cases h : n = 0
  · exact .inl h
  · right
    rw [decs, if_neg h, List.head?_reverse]
    have := lod_last h
    rw [List.getLast?_map]
    cases hl : (lod n).getLast? with
    | none => simp
    | some x => rw [hl] at this; simp at *; omega
theorem decs_inj {m n : Nat} (h : decs m = decs n) : m = n := by
  have := congrArg dval h; rw [decs_val, decs_val] at this; omega
theorem strip_val : ∀ {ns : List Int}, Dig ns → Dig (strip ns) ∧ dval (strip ns) = dval ns
  | [], h => ⟨h, rfl⟩
  | [a], h => by rw [strip_ne a [] (.inr rfl)]; exact ⟨h, rfl⟩
  | a :: b :: l, h => by
    by_cases ha : a = 48
    · subst ha
      obtain ⟨h1, h2⟩ := strip_val (ns := b :: l) h.tail
      refine ⟨h1, ?_⟩
      rw [show strip (48 :: b :: l) = strip (b :: l) from rfl, h2, dval_cons 48]; omega
    · rw [strip_ne a _ (.inl ha)]; exact ⟨h, rfl⟩
theorem strip_canon : ∀ {ns : List Int}, ns ≠ [] → strip ns = [48] ∨ (strip ns ≠ [] ∧ (strip ns).head? ≠ some 48)
  | [], h => absurd rfl h
  | [a], _ => by
    rw [strip_ne a [] (.inr rfl)]
    by_cases ha : a = 48
    · subst ha; exact .inl rfl
    · exact .inr ⟨by simp, by simpa using ha⟩
  | a :: b :: l, _ => by
    by_cases ha : a = 48
    · subst ha; exact strip_canon (ns := b :: l) (by simp)
    · rw [strip_ne a _ (.inl ha)]; exact .inr ⟨by simp, by simpa using ha⟩
theorem strip_eq {ns : List Int} (h : Dig ns) (hne : ns ≠ []) : strip ns = decs (dval ns).toNat := by
  obtain ⟨h1, h2⟩ := strip_val h
  rw [decs_canon h1 (strip_canon hne), h2]

/-! ### Signed texts -/
def enc (z : Int) : List Int := sgn (decide (z < 0)) (decs z.natAbs)
theorem decs48 (n : Nat) : decs n = [48] ↔ n = 0 := ⟨fun h => decs_inj h, fun h => by subst h; rfl⟩
theorem enc_neg {z : Int} (h : z < 0) : enc z = 45 :: decs z.natAbs := by
  rw [enc, sgn, if_pos ⟨by simp [h], fun hc => by rw [decs48] at hc; omega⟩]
theorem enc_nonneg {z : Int} (h : ¬ z < 0) : enc z = decs z.natAbs := by rw [enc, sgn, if_neg (by simp [h])]
theorem decs_head45 (n : Nat) : (decs n).head? ≠ some 45 := fun h => by
  have := decs_dig n 45 (List.mem_of_mem_head? h); omega
theorem enc_head (z : Int) : (enc z).head? = some 45 ↔ z < 0 := by
  by_cases h : z < 0
  · rw [enc_neg h]; simp [h]
  · rw [enc_nonneg h]; simp [h, decs_head45]
theorem enc_body (z : Int) : body (enc z) = decs z.natAbs := by
  unfold body
  by_cases h : z < 0
  · rw [if_pos ((enc_head z).2 h), enc_neg h]; rfl
  · rw [if_neg (fun hc => h ((enc_head z).1 hc)), enc_nonneg h]
theorem enc_ne (z : Int) : enc z ≠ [] := by
  by_cases h : z < 0
  · rw [enc_neg h]; simp
  · rw [enc_nonneg h]; exact decs_ne _
theorem enc_bytes (z : Int) : Bytes (enc z) := by
  by_cases h : z < 0
  · rw [enc_neg h]; exact Bytes.cons (by omega) (decs_dig _).bytes
  · rw [enc_nonneg h]; exact (decs_dig _).bytes
theorem enc_inj {y z : Int} (h : enc y = enc z) : y = z := by
  have h1 := enc_head y; rw [h, enc_head z] at h1
  have h2 := enc_body y; rw [h, enc_body z] at h2
  have := decs_inj h2
  by_cases hz : z < 0
  · have := h1.1 hz; omega
  · have : ¬ y < 0 := fun hc => hz (h1.2 hc); omega
theorem digs_iff (ns : List Int) : digs ns = true ↔ Dig ns := by
  simp [digs, Dig]
theorem fm_enc (z : Int) : fm (enc z) = true := by
  unfold fm
  rw [enc_body]
  by_cases h0 : z = 0
  · subst h0; rfl
  · rcases decs_head z.natAbs with h | h
    · omega
    · simp [decs_ne, h, (digs_iff _).2 (decs_dig _)]
/-- The number of a text. -/
def zval (ns : List Int) : Int := if ns.head? = some 45 then - dval (body ns) else dval (body ns)
theorem enc_of_fm {ns : List Int} (h : fm ns = true) : ns = enc (zval ns) := by
  unfold fm at h
  simp only [Bool.or_eq_true, decide_eq_true_eq, Bool.and_eq_true] at h
  rcases h with rfl | ⟨⟨h1, h2⟩, h3⟩
  · rfl
  · have hd := (digs_iff _).1 h3
    have hc := decs_canon hd (.inr ⟨h1, h2⟩)
    have hp : 0 < dval (body ns) := by
      have hn := dval_nonneg hd
      by_cases h0 : dval (body ns) = 0
      · exfalso
        rw [h0] at hc
        exact h2 (by rw [hc]; rfl)
      · omega
    unfold zval
    split
    · rename_i hh
      rw [enc_neg (by omega), show (-dval (body ns)).natAbs = (dval (body ns)).toNat by omega, ← hc]
      unfold body; rw [if_pos hh]
      cases ns with
      | nil => cases hh
      | cons a l => simp at hh; subst hh; rfl
    · rename_i hh
      rw [enc_nonneg (by omega), show (dval (body ns)).natAbs = (dval (body ns)).toNat by omega, ← hc]
      unfold body; rw [if_neg hh]
theorem sgn_enc (b : Bool) (n : Nat) : sgn b (decs n) = enc (if b then -(n : Int) else n) := by
  cases b with
  | false => rw [sgn, if_neg (by simp), if_neg (by simp), enc_nonneg (by omega)]; rfl
  | true =>
    by_cases h : n = 0
    · subst h; rfl
    · rw [sgn, if_pos ⟨rfl, fun hc => h ((decs48 n).1 hc)⟩, if_pos rfl, enc_neg (by omega)]
      congr 2; omega

/-! ### The order -/
theorem lexLess_val : ∀ {a b : List Int}, Dig a → Dig b → a.length = b.length → (lexLess a b = true ↔ dval a < dval b)
  | [], [], _, _, _ => by simp [lexLess, dval_nil]
  | [], _ :: _, _, _, h => by simp at h
  | _ :: _, [], _, _, h => by simp at h
  | x :: a, y :: b, ha, hb, hl => by
    have hl2 : a.length = b.length := by simpa using hl
    have ih := lexLess_val ha.tail hb.tail hl2
    have h1 := dval_lt ha.tail; have h2 := dval_lt hb.tail
    have h3 := dval_nonneg ha.tail; have h4 := dval_nonneg hb.tail
    simp only [lexLess, Bool.or_eq_true, decide_eq_true_eq, Bool.and_eq_true, ih, dval_cons, hl2]
    rw [hl2] at h1
    have hp := p10_pos b.length
    generalize (10 : Int) ^ b.length = p at *
    constructor
    · rintro (h | ⟨h, h5⟩)
      · have : p * (x - 48) + p ≤ p * (y - 48) := by
          have : p * ((x - 48) + 1) ≤ p * (y - 48) := Int.mul_le_mul_of_nonneg_left (by omega) (by omega)
          rw [Int.mul_add] at this; omega
        omega
      · subst h; omega
    · intro h
      by_cases hxy : x < y
      · exact .inl hxy
      · right
        have hge : y ≤ x := by omega
        by_cases he : x = y
        · subst he; exact ⟨rfl, by omega⟩
        · exfalso
          have : p * (y - 48) + p ≤ p * (x - 48) := by
            have : p * ((y - 48) + 1) ≤ p * (x - 48) := Int.mul_le_mul_of_nonneg_left (by omega) (by omega)
            rw [Int.mul_add] at this; omega
          omega
theorem decs_low {n : Nat} (h : n ≠ 0) : (10 : Int) ^ ((decs n).length - 1) ≤ n := by
  have hv := decs_val n
  rcases decs_head n with h0 | hh
  · exact absurd h0 h
  · cases hd : decs n with
    | nil => exact absurd hd (decs_ne n)
    | cons a l =>
      have hg := decs_dig n
      rw [hd] at hv hh hg
      rw [dval_cons] at hv
      have h1 := dval_nonneg hg.tail
      have h2 := hg.head
      have h3 : a ≠ 48 := by simpa using hh
      have hp := p10_pos l.length
      simp only [List.length_cons, Nat.add_sub_cancel]
      have : (10 : Int) ^ l.length * 1 ≤ 10 ^ l.length * (a - 48) := Int.mul_le_mul_of_nonneg_left (by omega) (by omega)
      omega
theorem decs_high (n : Nat) : (n : Int) < 10 ^ (decs n).length := by
  have := dval_lt (decs_dig n); rwa [decs_val] at this
theorem decs_len {m n : Nat} (h : (decs m).length < (decs n).length) : m < n := by
  have hn : n ≠ 0 := fun h0 => by
    subst h0
    have : (decs m).length ≠ 0 := fun hc => decs_ne m (List.length_eq_zero_iff.1 hc)
    have : (decs 0).length = 1 := rfl
    omega
  have h1 := decs_high m
  have h2 := decs_low hn
  have h3 : (10 : Int) ^ (decs m).length ≤ 10 ^ ((decs n).length - 1) := p10_le (by omega)
  omega
/-- -1, 0, 1. -/
def cmpI (a b : Int) : Int := if a < b then -1 else if b < a then 1 else 0
theorem sizeI_decs (m n : Nat) : sizeI (decs m) (decs n) = cmpI m n := by
  unfold sizeI cmpI
  by_cases hl : (decs m).length ≠ (decs n).length
  · rw [if_pos hl]
    by_cases h : (decs m).length < (decs n).length
    · have := decs_len h
      rw [if_pos h, if_pos (by omega)]
    · have := decs_len (m := n) (n := m) (by omega)
      rw [if_neg h, if_neg (by omega), if_pos (by omega)]
  · have hl2 : (decs m).length = (decs n).length := by omega
    rw [if_neg hl]
    have h1 := lexLess_val (decs_dig m) (decs_dig n) hl2
    have h2 := lexLess_val (decs_dig n) (decs_dig m) hl2.symm
    rw [decs_val, decs_val] at h1 h2
    by_cases a : (m : Int) < n
    · rw [if_pos (h1.2 a), if_pos a]
    · rw [if_neg (fun hc => a (h1.1 hc)), if_neg a]
      by_cases b : (n : Int) < m
      · rw [if_pos (h2.2 b), if_pos b]
      · rw [if_neg (fun hc => b (h2.1 hc)), if_neg b]
/-- More digits for more. -/
theorem decs_len_le {m n : Nat} (h : m ≤ n) : (decs m).length ≤ (decs n).length := by
  by_cases hc : (decs n).length < (decs m).length
  · have := decs_len hc; omega
  · omega
theorem decs_len_lt {n k : Nat} (h : (n : Int) < 10 ^ k) (hk : 0 < k) : (decs n).length ≤ k := by
  by_cases h0 : n = 0
  · subst h0; exact hk
  · have h1 := decs_low h0
    by_cases hc : (decs n).length ≤ k
    · exact hc
    · have := p10_le (j := k) (k := (decs n).length - 1) (by omega); omega

theorem getD_set_self {ns : List Int} {k : Nat} (h : k < ns.length) (u : Int) : (ns.set k u).getD k 0 = u := by simp [List.getD, h]
theorem getD_set_ne {ns : List Int} {j k : Nat} (h : j ≠ k) (u : Int) : (ns.set j u).getD k 0 = ns.getD k 0 := by simp [List.getD, h]
theorem drop_set_self {ns : List Int} {k : Nat} (h : k < ns.length) (u : Int) : (ns.set k u).drop k = u :: ns.drop (k + 1) := by
  rw [List.drop_eq_getElem_cons (by rw [List.length_set]; exact h), List.getElem_set_self]
  congr 1
  rw [List.drop_set, if_pos (by omega)]
theorem take_set_self {ns : List Int} (k : Nat) (u : Int) : (ns.set k u).take k = ns.take k := by
  rw [List.take_set, List.set_eq_of_length_le (by simp; omega)]
theorem drop_getD {ns : List Int} {k : Nat} (h : k < ns.length) : ns.drop k = ns.getD k 0 :: ns.drop (k + 1) := by
  rw [List.drop_eq_getElem_cons h]; simp [List.getD, h]
theorem take_getD {ns : List Int} {k : Nat} (h : k < ns.length) : ns.take (k + 1) = ns.take k ++ [ns.getD k 0] := by
  rw [List.take_add_one]; simp [List.getD, h]
theorem getD_of_take {ns ms : List Int} {j k : Nat} (h : ns.take k = ms.take k) (hj : j < k) : ns.getD j 0 = ms.getD j 0 := by
  have := congrArg (fun l => l[j]?) h
  simp only [List.getElem?_take, if_pos hj] at this
  simp [List.getD, this]

/-! ### The sum -/
/-- What the sum's rounds keep: behind i - 1 of them. -/
structure PlusI (a b : List Int) (i : Nat) (c : Int) (ns : List Int) : Prop where
  i1 : 1 ≤ i
  i2 : i ≤ a.length + 1
  c1 : c = 0 ∨ c = 1
  len : ns.length = 1 + a.length
  dig : Dig ns
  top : ns.take (a.length + 2 - i) = (48 :: a).take (a.length + 2 - i)
  val : dval (ns.drop (a.length + 2 - i)) + 10 ^ (i - 1) * c = dval (a.drop (a.length + 1 - i)) + dval (b.drop (b.length - (i - 1)))

theorem Dig.set {l : List Int} (h : Dig l) (k : Nat) {u : Int} (hu : 48 ≤ u ∧ u ≤ 57) : Dig (l.set k u) := fun x hx => by
  rcases List.mem_or_eq_of_mem_set hx with hx | rfl
  · exact h x hx
  · exact hu

theorem PlusI.step {a b ns : List Int} {i : Nat} {c : Int} (h : PlusI a b i c ns) (hi : i ≤ a.length) {x u c2 : Int} (hx : x = if i ≤ b.length then b.getD (b.length - i) 0 - 48 else 0)
    (hu : 48 ≤ u ∧ u ≤ 57) (hc : c2 = 0 ∨ c2 = 1) (he : u + 10 * c2 = ns.getD (a.length + 1 - i) 0 + c + x) : PlusI a b (i + 1) c2 (ns.set (a.length + 1 - i) u) := by
  have h1 := h.i1
  have hl := h.len
  refine ⟨by omega, by omega, hc, by rw [List.length_set]; exact h.len, h.dig.set _ hu, ?_, ?_⟩
  · rw [show a.length + 2 - (i + 1) = a.length + 1 - i by omega, take_set_self]
    have := congrArg (List.take (a.length + 1 - i)) h.top
    rwa [List.take_take, List.take_take, Nat.min_eq_left (by omega)] at this
  · have e0 : ns.getD (a.length + 1 - i) 0 = a.getD (a.length - i) 0 := by
      rw [getD_of_take h.top (by omega), show a.length + 1 - i = (a.length - i) + 1 by omega]; rfl
    have e1 : a.drop (a.length + 1 - (i + 1)) = a.getD (a.length - i) 0 :: a.drop (a.length + 1 - i) := by
      rw [show a.length + 1 - (i + 1) = a.length - i by omega, drop_getD (by omega), show a.length - i + 1 = a.length + 1 - i by omega]
    have e2 : dval (b.drop (b.length - (i + 1 - 1))) = dval (b.drop (b.length - (i - 1))) + 10 ^ (i - 1) * x := by
      by_cases hib : i ≤ b.length
      · rw [if_pos hib] at hx
        rw [show b.length - (i + 1 - 1) = b.length - i by omega, drop_getD (by omega : b.length - i < b.length), show b.length - i + 1 = b.length - (i - 1) by omega, dval_cons, hx]
        congr 3; simp; omega
      · rw [if_neg hib] at hx
        rw [show b.length - (i + 1 - 1) = b.length - (i - 1) by omega, hx]; omega
    have e3 : (ns.set (a.length + 1 - i) u).drop (a.length + 2 - (i + 1)) = u :: ns.drop (a.length + 2 - i) := by
      rw [show a.length + 2 - (i + 1) = a.length + 1 - i by omega, drop_set_self (by omega), show a.length + 1 - i + 1 = a.length + 2 - i by omega]
    rw [e1, e2, e3, dval_cons, dval_cons]
    have l1 : (ns.drop (a.length + 2 - i)).length = i - 1 := by simp; omega
    have l2 : (a.drop (a.length + 1 - i)).length = i - 1 := by simp; omega
    rw [l1, l2, show i + 1 - 1 = (i - 1) + 1 by omega, p10_succ]
    have hv := h.val
    generalize (10 : Int) ^ (i - 1) = p at *
    rw [e0] at he
    generalize dval (ns.drop (a.length + 2 - i)) = A at *
    generalize dval (a.drop (a.length + 1 - i)) = B at *
    generalize dval (b.drop (b.length - (i - 1))) = C at *
    have h4 : 10 * p * c2 = p * (10 * c2) := by rw [← Int.mul_assoc, Int.mul_comm p 10]
    have h3 : p * (u - 48 + 10 * c2) = p * ((a.getD (a.length - i) 0 - 48) + c + x) := by congr 1; omega
    rw [Int.mul_add, Int.mul_add, Int.mul_add] at h3
    omega

theorem PlusI.zero (a b : List Int) (ha : Dig a) : PlusI a b 1 0 (48 :: a) :=
  ⟨by omega, by omega, .inl rfl, by simp; omega, ha.cons (by omega), rfl, by simp [dval_nil]⟩

theorem PlusI.done {a b ns : List Int} {i : Nat} {c : Int} (h : PlusI a b i c ns) (hi : ¬ i ≤ a.length) (hl : b.length ≤ a.length) : ns.getD 0 0 = 48 ∧ Dig (ns.set 0 (48 + c)) ∧ dval (ns.set 0 (48 + c)) = dval a + dval b := by
  have h2 := h.i2
  have hie : i = a.length + 1 := by omega
  subst hie
  have hlen := h.len
  have ht := h.top
  rw [show a.length + 2 - (a.length + 1) = 1 by omega] at ht
  have h0 : ns.getD 0 0 = 48 := by rw [getD_of_take ht (by omega)]; rfl
  have hv := h.val
  rw [show a.length + 2 - (a.length + 1) = 1 by omega, show a.length + 1 - (a.length + 1) = 0 by omega, show b.length - (a.length + 1 - 1) = 0 by omega, List.drop_zero, List.drop_zero, show a.length + 1 - 1 = a.length by omega] at hv
  refine ⟨h0, h.dig.set _ (by rcases h.c1 with h | h <;> omega), ?_⟩
  have : ns.set 0 (48 + c) = (48 + c) :: ns.drop 1 := by
    have := drop_set_self (ns := ns) (k := 0) (by omega) (48 + c)
    simpa using this
  rw [this, dval_cons, show (ns.drop 1).length = a.length by simp; omega, show 48 + c - 48 = c by omega]
  omega


end Go.XW.DI
/- Texts of numbers, by their bytes: plain laws, no program. -/
namespace Go.XW.DU
open Go.RowKit Go.XW Go.XW.DI

theorem nums_length (l : List UInt8) : (nums l).length = l.length := by simp [nums]
theorem ofNums_length (ns : List Int) : (ofNums ns).length = ns.length := by simp [ofNums]
theorem ofNums_nums (l : List UInt8) : ofNums (nums l) = l := by
  unfold ofNums nums
  rw [List.map_map]
  conv => rhs; rw [← List.map_id l]
  congr 1
  funext b
  simp
theorem u8_back {n : Int} (h : 0 ≤ n ∧ n ≤ 255) : ((UInt8.ofNat n.toNat).toNat : Int) = n := by
  simp; omega
theorem nums_ofNums : ∀ {ns : List Int}, Bytes ns → nums (ofNums ns) = ns
  | [], _ => rfl
  | n :: ns, h => by
    have h1 := h n (by simp)
    have h2 := nums_ofNums (ns := ns) fun x hx => h x (List.mem_cons_of_mem _ hx)
    unfold nums ofNums at *
    simp only [List.map_cons]
    rw [h2, u8_back h1]
theorem nums_bytes (l : List UInt8) : Bytes (nums l) := fun n hn => by
  obtain ⟨b, _, rfl⟩ := List.mem_map.1 hn
  have := b.toNat_lt; omega
theorem nums_inj {a b : List UInt8} (h : nums a = nums b) : a = b := by rw [← ofNums_nums a, h, ofNums_nums]
theorem ofNums_inj {a b : List Int} (ha : Bytes a) (hb : Bytes b) (h : ofNums a = ofNums b) : a = b := by rw [← nums_ofNums ha, h, nums_ofNums hb]
theorem nums_getD (l : List UInt8) (k : Nat) : (nums l).getD k 0 = ((l.getD k 0).toNat : Int) := by
  simp only [nums, List.getD, List.getElem?_map]
  cases l[k]? <;> rfl
theorem nums_drop (l : List UInt8) (k : Nat) : nums (l.drop k) = (nums l).drop k := by simp [nums, List.map_drop]
theorem nums_take (l : List UInt8) (k : Nat) : nums (l.take k) = (nums l).take k := by simp [nums, List.map_take]
theorem nums_append (a b : List UInt8) : nums (a ++ b) = nums a ++ nums b := by simp [nums]
theorem nums_head (l : List UInt8) : (nums l).head? = l.head?.map fun b => (b.toNat : Int) := by cases l <;> rfl
theorem nums_head_eq (l : List UInt8) (c : UInt8) : (nums l).head? = some (c.toNat : Int) ↔ l.head? = some c := by
  rw [nums_head]
  cases l.head? with
  | none => simp
  | some b =>
    simp only [Option.map_some, Option.some.injEq]
    constructor
    · intro h; exact UInt8.toNat_inj.1 (by omega)
    · rintro rfl; rfl
theorem bytesLess_nums : ∀ (a b : List UInt8), Op.bytesLess a b = lexLess (nums a) (nums b)
  | [], [] => rfl
  | [], _ :: _ => rfl
  | _ :: _, [] => rfl
  | x :: a, y :: b => by
    have ih := bytesLess_nums a b
    unfold nums at *
    simp only [List.map_cons, Op.bytesLess, lexLess]
    rw [ih]
    have l1 : decide (x < y) = decide ((x.toNat : Int) < (y.toNat : Int)) := by
      rw [Bool.eq_iff_iff, decide_eq_true_iff, decide_eq_true_iff, UInt8.lt_iff_toNat_lt]; omega
    have l2 : (x == y) = decide ((x.toNat : Int) = (y.toNat : Int)) := by
      rw [Bool.eq_iff_iff, beq_iff_eq, decide_eq_true_iff]
      constructor
      · rintro rfl; rfl
      · intro h; exact UInt8.toNat_inj.1 (by omega)
    rw [l1, l2]

def digB (c : UInt8) : Bool := decide (48 ≤ c.toNat) && decide (c.toNat ≤ 57)
def digs (l : List UInt8) : Bool := l.all digB
/-- Without the sign. -/
def body (l : List UInt8) : List UInt8 := if l.head? = some 45 then l.drop 1 else l
/-- A whole number in tens. -/
def fm (l : List UInt8) : Bool := decide (l = [48]) || (decide (body l ≠ [] ∧ (body l).head? ≠ some 48) && digs (body l))
/-- The order of digits without noughts ahead. -/
def sizeI (a b : List UInt8) : Int :=
  if a.length ≠ b.length then (if a.length < b.length then -1 else 1) else if Op.bytesLess a b then -1 else if Op.bytesLess b a then 1 else 0
/-- Digits with a sign; 0 has none. -/
def sgn (b : Bool) (l : List UInt8) : List UInt8 := if b = true ∧ l ≠ [48] then 45 :: l else l

theorem nums_eq48 (l : List UInt8) : nums l = [48] ↔ l = [48] := ⟨fun h => nums_inj h, fun h => by rw [h]; rfl⟩
theorem nums_body (l : List UInt8) : nums (body l) = DI.body (nums l) := by
  unfold body DI.body
  have this : (nums l).head? = some 45 ↔ l.head? = some 45 := nums_head_eq l 45
  by_cases h : l.head? = some 45
  · rw [if_pos h, if_pos (this.2 h), nums_drop]
  · rw [if_neg h, if_neg (fun hc => h (this.1 hc))]
theorem nums_digs (l : List UInt8) : DI.digs (nums l) = digs l := by
  unfold DI.digs digs nums digB
  rw [List.all_map]
  congr 1
  funext c
  simp only [Function.comp]
  congr 1 <;> (rw [Bool.eq_iff_iff, decide_eq_true_iff, decide_eq_true_iff]; omega)
theorem nums_fm (l : List UInt8) : DI.fm (nums l) = fm l := by
  unfold DI.fm fm
  rw [← nums_body, nums_digs]
  have h1 : decide (nums l = [48]) = decide (l = [48]) := by rw [Bool.eq_iff_iff]; simp [nums_eq48]
  have h2 : (nums (body l)).head? = some 48 ↔ (body l).head? = some 48 := nums_head_eq (body l) 48
  have h3 : nums (body l) = [] ↔ body l = [] := ⟨fun h => nums_inj h, fun h => by rw [h]; rfl⟩
  have h4 : decide (nums (body l) ≠ [] ∧ (nums (body l)).head? ≠ some 48) = decide (body l ≠ [] ∧ (body l).head? ≠ some 48) := by
    rw [Bool.eq_iff_iff, decide_eq_true_iff, decide_eq_true_iff, ne_eq, h3, ne_eq, ne_eq, ne_eq]
    exact ⟨fun ⟨a, b⟩ => ⟨a, fun hc => b (h2.2 hc)⟩, fun ⟨a, b⟩ => ⟨a, fun hc => b (h2.1 hc)⟩⟩
  rw [h1, h4]
theorem nums_sgn (b : Bool) (l : List UInt8) : nums (sgn b l) = DI.sgn b (nums l) := by
  unfold sgn DI.sgn
  by_cases h : b = true ∧ l ≠ [48]
  · rw [if_pos h, if_pos ⟨h.1, fun hc => h.2 ((nums_eq48 l).1 hc)⟩]; rfl
  · rw [if_neg h, if_neg (fun hc => h ⟨hc.1, fun h2 => hc.2 ((nums_eq48 l).2 h2)⟩)]

/-- The text of a number without a sign; of any. -/
def dc (n : Nat) : List UInt8 := ofNums (decs n)
def en (z : Int) : List UInt8 := ofNums (enc z)
/-- The number of a text. -/
def zv (l : List UInt8) : Int := zval (nums l)
theorem nums_dc (n : Nat) : nums (dc n) = decs n := nums_ofNums (decs_dig n).bytes
theorem nums_en (z : Int) : nums (en z) = enc z := nums_ofNums (enc_bytes z)
theorem dc_length (n : Nat) : (dc n).length = (decs n).length := ofNums_length _
theorem en_length (z : Int) : (en z).length = (enc z).length := ofNums_length _
theorem fm_en (z : Int) : fm (en z) = true := by rw [← nums_fm, nums_en]; exact DI.fm_enc z
theorem en_of_fm {l : List UInt8} (h : fm l = true) : l = en (zv l) := by
  rw [← nums_fm] at h
  have := enc_of_fm h
  exact nums_inj (by rw [nums_en]; exact this)
theorem body_en (z : Int) : body (en z) = dc z.natAbs := nums_inj (by rw [nums_body, nums_en, nums_dc]; exact enc_body z)
theorem head_en (z : Int) : (en z).head? = some 45 ↔ z < 0 := by
  have h : (nums (en z)).head? = some 45 ↔ (en z).head? = some 45 := nums_head_eq (en z) 45
  rw [← h, nums_en]; exact enc_head z
theorem sgn_dc (b : Bool) (n : Nat) : sgn b (dc n) = en (if b then -(n : Int) else n) := nums_inj (by rw [nums_sgn, nums_dc, nums_en]; exact sgn_enc b n)
theorem sizeI_nums (a b : List UInt8) : sizeI a b = DI.sizeI (nums a) (nums b) := by
  unfold sizeI DI.sizeI
  rw [nums_length, nums_length, bytesLess_nums, bytesLess_nums]
theorem sizeI_dc (m n : Nat) : sizeI (dc m) (dc n) = cmpI m n := by rw [sizeI_nums, nums_dc, nums_dc]; exact sizeI_decs m n
theorem en_inj {y z : Int} (h : en y = en z) : y = z := enc_inj (by rw [← nums_en, h, nums_en])
theorem en_ne (z : Int) : en z ≠ [] := fun h => by
  have := congrArg List.length h
  rw [en_length] at this
  exact enc_ne z (List.length_eq_zero_iff.1 this)
theorem dc_ne (n : Nat) : dc n ≠ [] := fun h => by
  have := congrArg List.length h
  rw [dc_length] at this
  exact decs_ne n (List.length_eq_zero_iff.1 this)
theorem en_zero : en 0 = [48] := rfl
theorem en_eq0 (z : Int) : en z = [48] ↔ z = 0 := ⟨fun h => en_inj (h.trans en_zero.symm), fun h => by rw [h]; rfl⟩
theorem dc_le_en (z : Int) : (dc z.natAbs).length ≤ (en z).length := by
  rw [← body_en]; unfold body; split <;> simp
theorem en_le_dc (z : Int) : (en z).length ≤ (dc z.natAbs).length + 1 := by
  have := body_en z
  rw [← this]; unfold body; split <;> simp; omega
theorem en_nonneg {z : Int} (h : ¬ z < 0) : en z = dc z.natAbs := by unfold en dc; rw [enc_nonneg h]
theorem en_nat (n : Nat) : en n = dc n := by rw [en_nonneg (by omega)]; rfl
end Go.XW.DU
/- The difference of digits: plain laws, no program. -/
namespace Go.XW.DI

/-- What the difference's rounds keep: behind i - 1 of them. -/
structure MinusI (a b : List Int) (i : Nat) (c : Int) (ns : List Int) : Prop where
  i1 : 1 ≤ i
  i2 : i ≤ a.length + 1
  c1 : c = 0 ∨ c = 1
  len : ns.length = a.length
  dig : Dig ns
  top : ns.take (a.length + 1 - i) = a.take (a.length + 1 - i)
  val : dval (ns.drop (a.length + 1 - i)) + dval (b.drop (b.length - (i - 1))) = dval (a.drop (a.length + 1 - i)) + 10 ^ (i - 1) * c

theorem MinusI.at {a b ns : List Int} {i : Nat} {c : Int} (h : MinusI a b i c ns) (hi : i ≤ a.length) : ns.getD (a.length - i) 0 = a.getD (a.length - i) 0 := by
  have h1 := h.i1
  exact getD_of_take h.top (by omega)

theorem MinusI.step {a b ns : List Int} {i : Nat} {c : Int} (h : MinusI a b i c ns) (hi : i ≤ a.length) {x u c2 : Int} (hx : x = if i ≤ b.length then b.getD (b.length - i) 0 - 48 else 0)
    (hu : 48 ≤ u ∧ u ≤ 57) (hc : c2 = 0 ∨ c2 = 1) (he : u = a.getD (a.length - i) 0 + 10 * c2 - c - x) : MinusI a b (i + 1) c2 (ns.set (a.length - i) u) := by
  have h1 := h.i1
  have hl := h.len
  refine ⟨by omega, by omega, hc, by rw [List.length_set]; exact h.len, h.dig.set _ hu, ?_, ?_⟩
  · rw [show a.length + 1 - (i + 1) = a.length - i by omega, take_set_self]
    have := congrArg (List.take (a.length - i)) h.top
    rwa [List.take_take, List.take_take, Nat.min_eq_left (by omega)] at this
  · have e1 : a.drop (a.length + 1 - (i + 1)) = a.getD (a.length - i) 0 :: a.drop (a.length + 1 - i) := by
      rw [show a.length + 1 - (i + 1) = a.length - i by omega, drop_getD (by omega), show a.length - i + 1 = a.length + 1 - i by omega]
    have e2 : dval (b.drop (b.length - (i + 1 - 1))) = dval (b.drop (b.length - (i - 1))) + 10 ^ (i - 1) * x := by
      by_cases hib : i ≤ b.length
      · rw [if_pos hib] at hx
        rw [show b.length - (i + 1 - 1) = b.length - i by omega, drop_getD (by omega : b.length - i < b.length), show b.length - i + 1 = b.length - (i - 1) by omega, dval_cons, hx]
        congr 3; simp; omega
      · rw [if_neg hib] at hx
        rw [show b.length - (i + 1 - 1) = b.length - (i - 1) by omega, hx]; omega
    have e3 : (ns.set (a.length - i) u).drop (a.length + 1 - (i + 1)) = u :: ns.drop (a.length + 1 - i) := by
      rw [show a.length + 1 - (i + 1) = a.length - i by omega, drop_set_self (by omega), show a.length - i + 1 = a.length + 1 - i by omega]
    rw [e1, e2, e3, dval_cons, dval_cons]
    have l1 : (ns.drop (a.length + 1 - i)).length = i - 1 := by simp; omega
    have l2 : (a.drop (a.length + 1 - i)).length = i - 1 := by simp; omega
    rw [l1, l2, show i + 1 - 1 = (i - 1) + 1 by omega, p10_succ]
    have hv := h.val
    generalize (10 : Int) ^ (i - 1) = p at *
    generalize dval (ns.drop (a.length + 1 - i)) = A at *
    generalize dval (a.drop (a.length + 1 - i)) = B at *
    generalize dval (b.drop (b.length - (i - 1))) = C at *
    have h4 : 10 * p * c2 = p * (10 * c2) := by rw [← Int.mul_assoc, Int.mul_comm p 10]
    have h3 : p * (u - 48 + c + x) = p * ((a.getD (a.length - i) 0 - 48) + 10 * c2) := by congr 1; omega
    rw [Int.mul_add, Int.mul_add, Int.mul_add] at h3
    omega

theorem MinusI.zero (a b : List Int) (ha : Dig a) : MinusI a b 1 0 a :=
  ⟨by omega, by omega, .inl rfl, rfl, ha, rfl, by simp [dval_nil]⟩

theorem MinusI.done {a b ns : List Int} {i : Nat} {c : Int} (h : MinusI a b i c ns) (hi : ¬ i ≤ a.length) (hl : b.length ≤ a.length) (hb : Dig b) (hv : dval b ≤ dval a) : dval ns = dval a - dval b := by
  have h2 := h.i2
  have hie : i = a.length + 1 := by omega
  subst hie
  have hlen := h.len
  have hw := h.val
  rw [show a.length + 1 - (a.length + 1) = 0 by omega, show b.length - (a.length + 1 - 1) = 0 by omega, List.drop_zero, List.drop_zero, List.drop_zero, show a.length + 1 - 1 = a.length by omega] at hw
  have hd := dval_lt h.dig
  have hb0 := dval_nonneg hb
  rw [hlen] at hd
  rcases h.c1 with rfl | rfl <;> omega
theorem lod_len {m n : Nat} (h : m ≤ n) : (lod m).length ≤ (lod n).length := by
  induction n using Nat.strongRecOn generalizing m with
  | _ n ih =>
    by_cases h0 : m = 0
    · subst h0; rw [lod_zero]; simp
    · rw [lod_succ h0, lod_succ (by omega : n ≠ 0)]
      have := @ih (n / 10) (by omega) (m / 10) (by omega)
      simpa using this
theorem lval_split {ds : List Int} {i : Nat} (hi : i < ds.length) : lval ds = lval (ds.take i) + 10 ^ i * (ds.getD i 0 + 10 * lval (ds.drop (i + 1))) := by
  have h1 : ds = ds.take i ++ ds.drop i := (List.take_append_drop i ds).symm
  have h2 := lval_append (ds.take i) (ds.drop i)
  rw [← h1, drop_getD hi, List.length_take, show min i ds.length = i by omega] at h2
  exact h2
theorem lval_lt_of {a b : List Int} {i : Nat} (ha : Dg a) (hb : Dg b) (hia : i < a.length) (hib : i < b.length) (he : a.drop (i + 1) = b.drop (i + 1)) (hl : a.getD i 0 < b.getD i 0) : lval a < lval b := by
  rw [lval_split hia, lval_split hib, he]
  have h1 : lval (a.take i) < 10 ^ i := by
    have := lval_lt (l := a.take i) fun x hx => ha x (List.mem_of_mem_take hx)
    rwa [List.length_take, show min i a.length = i by omega] at this
  have h2 := lval_nonneg (l := b.take i) fun x hx => hb x (List.mem_of_mem_take hx)
  generalize lval (b.drop (i + 1)) = r at *
  generalize a.getD i 0 = x at *
  generalize b.getD i 0 = y at *
  have h3 : (10 : Int) ^ i * (x + 10 * r + 1) ≤ 10 ^ i * (y + 10 * r) := Int.mul_le_mul_of_nonneg_left (by omega) (by have := p10_pos i; omega)
  rw [Int.mul_add, Int.mul_one] at h3
  omega

end Go.XW.DI
/- Sums and differences of digits, the lowest first: plain laws, no program. -/
namespace Go.XW.DI

/-- So many digits of a number, the lowest first. -/
def pd : Nat → Nat → List Int
  | 0, _ => []
  | k + 1, v => ((v % 10 : Nat) : Int) :: pd k (v / 10)
theorem pd_length : ∀ (k v : Nat), (pd k v).length = k
  | 0, _ => rfl
  | k + 1, v => by simp [pd, pd_length k]
theorem pd_dg : ∀ (k v : Nat), Dg (pd k v)
  | 0, _ => fun _ h => by cases h
  | k + 1, v => fun d hd => by
    rcases List.mem_cons.1 hd with rfl | hd
    · omega
    · exact pd_dg k (v / 10) d hd
theorem pd_unique : ∀ {l : List Int}, Dg l → l = pd l.length (lval l).toNat
  | [], _ => rfl
  | d :: l, h => by
    have h1 := h.head
    have h2 := lval_nonneg h.tail
    have ih := pd_unique h.tail
    rw [List.length_cons, pd, lval, show (d + 10 * lval l).toNat / 10 = (lval l).toNat by omega, ← ih]
    congr 1; omega
theorem pd_val {k v : Nat} (h : (v : Int) < 10 ^ k) : lval (pd k v) = v := by
  induction k generalizing v with
  | zero => simp at h; simp [pd, lval]; omega
  | succ k ih =>
    rw [p10_succ] at h
    rw [pd, lval, ih (by omega)]; omega

/-- The digits of a sum. -/
def sumN (a b : List Int) : Nat := if lval a + lval b < 10 ^ (max a.length b.length) then max a.length b.length else max a.length b.length + 1
def sumL (a b : List Int) : List Int := pd (sumN a b) (lval a + lval b).toNat
/-- What the sum's rounds keep: behind i of them. -/
structure SumI (a b : List Int) (i : Nat) (c : Int) (l : List Int) : Prop where
  len : l.length = i
  dg : Dg l
  c1 : c = 0 ∨ c = 1
  val : lval l + 10 ^ i * c = lval (a.take i) + lval (b.take i)
  top : i ≤ max a.length b.length ∨ (i = max a.length b.length + 1 ∧ c = 0 ∧ 10 ^ (i - 1) ≤ lval a + lval b)
theorem SumI.zero (a b : List Int) : SumI a b 0 0 [] := ⟨rfl, (fun _ h => by cases h), .inl rfl, by simp [lval], .inl (by omega)⟩
theorem lval_take_succ (a : List Int) (i : Nat) : lval (a.take (i + 1)) = lval (a.take i) + 10 ^ i * a.getD i 0 := by
  by_cases h : i < a.length
  · rw [take_getD h, lval_append, List.length_take, Nat.min_eq_left (by omega)]; simp [lval]
  · rw [List.take_of_length_le (by omega), List.take_of_length_le (by omega)]
    have : a.getD i 0 = 0 := by simp [List.getD, List.getElem?_eq_none (Nat.le_of_not_lt h)]
    rw [this]; omega
theorem dg_getD {a : List Int} (h : Dg a) (i : Nat) : 0 ≤ a.getD i 0 ∧ a.getD i 0 ≤ 9 := by
  by_cases hi : i < a.length
  · have : a.getD i 0 = a[i] := by simp [List.getD, hi]
    rw [this]; exact h _ (List.getElem_mem hi)
  · have : a.getD i 0 = 0 := by simp [List.getD, List.getElem?_eq_none (Nat.le_of_not_lt hi)]
    rw [this]; omega
theorem Dg.snoc {l : List Int} (h : Dg l) {d : Int} (hd : 0 ≤ d ∧ d ≤ 9) : Dg (l ++ [d]) := h.append fun x hx => by simp at hx; subst hx; exact hd
theorem lval_snoc (l : List Int) (d : Int) : lval (l ++ [d]) = lval l + 10 ^ l.length * d := by rw [lval_append]; simp [lval]
theorem SumI.step {a b l : List Int} {i : Nat} {c : Int} (h : SumI a b i c l) (ha : Dg a) (hb : Dg b) (hi : i < a.length ∨ i < b.length ∨ 0 < c) {d d2 c2 : Int} (hd : d = a.getD i 0 + b.getD i 0 + c) (h2 : d = d2 + 10 * c2) (h3 : 0 ≤ d2 ∧ d2 ≤ 9) : SumI a b (i + 1) c2 (l ++ [d2]) := by
  have hc := h.c1
  have xa := dg_getD ha i
  have xb := dg_getD hb i
  have hv : lval (l ++ [d2]) + 10 ^ (i + 1) * c2 = lval (a.take (i + 1)) + lval (b.take (i + 1)) := by
    rw [lval_snoc, h.len, lval_take_succ, lval_take_succ, p10_succ]
    have h4 := h.val
    generalize (10 : Int) ^ i = p at *
    have h5 : p * (d2 + 10 * c2) = p * (a.getD i 0 + b.getD i 0 + c) := by rw [← h2, hd]
    have h6 : 10 * p * c2 = p * (10 * c2) := by rw [← Int.mul_assoc, Int.mul_comm p 10]
    rw [Int.mul_add, Int.mul_add, Int.mul_add] at h5
    omega
  have hc2 : c2 = 0 ∨ c2 = 1 := by omega
  refine ⟨by simp [h.len], h.dg.snoc h3, hc2, hv, ?_⟩
  by_cases hm : i < max a.length b.length
  · exact .inl (by omega)
  · have e1 : a.getD i 0 = 0 := by simp [List.getD, List.getElem?_eq_none (show a.length ≤ i by omega)]
    have e2 : b.getD i 0 = 0 := by simp [List.getD, List.getElem?_eq_none (show b.length ≤ i by omega)]
    have hcp : c = 1 := by omega
    have him : i = max a.length b.length := by
      rcases h.top with h | h
      · omega
      · omega
    refine .inr ⟨by omega, by omega, ?_⟩
    have h4 := h.val
    rw [List.take_of_length_le (show a.length ≤ i by omega), List.take_of_length_le (show b.length ≤ i by omega), hcp] at h4
    have := lval_nonneg h.dg
    rw [show i + 1 - 1 = i by omega]
    omega
theorem SumI.done {a b l : List Int} {i : Nat} {c : Int} (h : SumI a b i c l) (ha : Dg a) (hb : Dg b) (hi : ¬ (i < a.length ∨ i < b.length ∨ 0 < c)) : l = sumL a b := by
  have hc := h.c1
  have h4 := h.val
  have hc0 : c = 0 := by omega
  rw [List.take_of_length_le (show a.length ≤ i by omega), List.take_of_length_le (show b.length ≤ i by omega), hc0] at h4
  have hv : lval l = lval a + lval b := by omega
  have h5 := pd_unique h.dg
  have h6 := lval_lt h.dg
  rw [h.len] at h5 h6
  rw [h5, sumL, sumN, hv]
  rcases h.top with ht | ⟨ht, _, h7⟩
  · have : i = max a.length b.length := by omega
    rw [if_pos (by rw [← this]; omega), this]
  · rw [show i - 1 = max a.length b.length by omega] at h7
    rw [if_neg (by omega), ht]
theorem sumL_dg (a b : List Int) : Dg (sumL a b) := pd_dg _ _
theorem sumL_length (a b : List Int) : (sumL a b).length ≤ max a.length b.length + 1 := by rw [sumL, pd_length, sumN]; split <;> omega
theorem sumL_val {a b : List Int} (ha : Dg a) (hb : Dg b) : lval (sumL a b) = lval a + lval b := by
  have h1 := lval_nonneg ha; have h2 := lval_nonneg hb; have h3 := lval_lt ha; have h4 := lval_lt hb
  rw [sumL, pd_val]
  · omega
  · rw [sumN]
    have h5 := p10_le (j := a.length) (k := max a.length b.length) (by omega)
    have h6 := p10_le (j := b.length) (k := max a.length b.length) (by omega)
    split
    · omega
    · rw [p10_succ]; omega

/-- The digits of a difference. -/
def restL (a b : List Int) : List Int := pd a.length (lval a - lval b).toNat
structure RestI (a b : List Int) (i : Nat) (c : Int) (l : List Int) : Prop where
  len : l.length = i
  le : i ≤ a.length
  dg : Dg l
  c1 : c = 0 ∨ c = 1
  val : lval l + lval (b.take i) = lval (a.take i) + 10 ^ i * c
theorem RestI.zero (a b : List Int) : RestI a b 0 0 [] := ⟨rfl, by omega, (fun _ h => by cases h), .inl rfl, by simp [lval]⟩
theorem RestI.step {a b l : List Int} {i : Nat} {c : Int} (h : RestI a b i c l) (hi : i < a.length) {d2 c2 : Int} (hc2 : c2 = 0 ∨ c2 = 1) (hd : d2 = a.getD i 0 - b.getD i 0 - c + 10 * c2) (h3 : 0 ≤ d2 ∧ d2 ≤ 9) : RestI a b (i + 1) c2 (l ++ [d2]) := by
  refine ⟨by simp [h.len], by omega, h.dg.snoc h3, hc2, ?_⟩
  rw [lval_snoc, h.len, lval_take_succ, lval_take_succ, p10_succ]
  have h4 := h.val
  generalize (10 : Int) ^ i = p at *
  have h5 : p * (d2 + b.getD i 0 + c) = p * (a.getD i 0 + 10 * c2) := by congr 1; omega
  have h6 : 10 * p * c2 = p * (10 * c2) := by rw [← Int.mul_assoc, Int.mul_comm p 10]
  rw [Int.mul_add, Int.mul_add, Int.mul_add] at h5
  omega
theorem RestI.done {a b l : List Int} {i : Nat} {c : Int} (h : RestI a b i c l) (ha : Dg a) (hb : Dg b) (hi : ¬ i < a.length) (hl : b.length ≤ a.length) (hv : lval b ≤ lval a) : l = restL a b := by
  have hle := h.le
  have hie : i = a.length := by omega
  subst hie
  have h4 := h.val
  rw [List.take_of_length_le hl, List.take_of_length_le (Nat.le_refl _)] at h4
  have h5 := pd_unique h.dg
  have h6 := lval_lt h.dg
  have h7 := lval_nonneg hb
  rw [h.len] at h5 h6
  have hv2 : lval l = lval a - lval b := by rcases h.c1 with e | e <;> rw [e] at h4 <;> omega
  rw [h5, hv2, restL]
theorem restL_dg (a b : List Int) : Dg (restL a b) := pd_dg _ _
theorem restL_length (a b : List Int) : (restL a b).length = a.length := pd_length _ _
theorem restL_val {a b : List Int} (ha : Dg a) (hb : Dg b) (hv : lval b ≤ lval a) : lval (restL a b) = lval a - lval b := by
  have h2 := lval_nonneg hb; have h3 := lval_lt ha
  rw [restL, pd_val] <;> omega
end Go.XW.DI
/- Products of digits, the lowest first: plain laws, no program. -/
namespace Go.XW.DI

theorem lval_set {l : List Int} {j : Nat} (hj : j < l.length) (u : Int) : lval (l.set j u) = lval l + 10 ^ j * (u - l.getD j 0) := by
  rw [lval_split (ds := l.set j u) (by simpa using hj), lval_split hj, take_set_self, getD_set_self hj]
  have : (l.set j u).drop (j + 1) = l.drop (j + 1) := by
    rw [List.drop_set]; simp
  rw [this, Int.mul_add, Int.mul_add, Int.mul_sub]; omega
theorem Dg.set {l : List Int} (h : Dg l) (k : Nat) {u : Int} (hu : 0 ≤ u ∧ u ≤ 9) : Dg (l.set k u) := fun x hx => by
  rcases List.mem_or_eq_of_mem_set hx with hx | rfl
  · exact h x hx
  · exact hu
theorem lval_zeros (n : Nat) : lval (List.replicate n 0) = 0 := by
  induction n with
  | zero => rfl
  | succ n ih => rw [List.replicate_succ, lval, ih]; rfl
theorem dg_zeros (n : Nat) : Dg (List.replicate n 0) := fun x hx => by have := List.eq_of_mem_replicate hx; subst this; omega

/-- The product's outer rounds: behind i of them. -/
structure TimI (a b : List Int) (i : Nat) (l : List Int) : Prop where
  len : l.length = a.length + b.length + 1
  le : i ≤ a.length
  dg : Dg l
  val : lval l = lval (a.take i) * lval b
theorem TimI.zero (a b : List Int) : TimI a b 0 (List.replicate (a.length + b.length + 1) 0) := ⟨by simp, by omega, dg_zeros _, by rw [lval_zeros]; simp [lval]⟩
/-- The inner ones: behind k of them. -/
structure TimJ (a b : List Int) (i k : Nat) (c : Int) (l : List Int) : Prop where
  len : l.length = a.length + b.length + 1
  ik : i + k ≤ a.length + b.length + 1
  dg : Dg l
  c1 : 0 ≤ c ∧ c ≤ 9
  val : lval l + 10 ^ (i + k) * c = lval (a.take i) * lval b + 10 ^ i * (a.getD i 0 * lval (b.take k))
theorem TimJ.zero {a b l : List Int} {i : Nat} (h : TimI a b i l) (hi : i < a.length) : TimJ a b i 0 0 l := ⟨h.len, by omega, h.dg, by omega, by rw [h.val]; simp [lval]⟩
theorem TimJ.step {a b l : List Int} {i k : Nat} {c : Int} (h : TimJ a b i k c l) (ha : Dg a) (hb : Dg b) (hk : i + k < a.length + b.length + 1) {d : Int} (hd : d = l.getD (i + k) 0 + a.getD i 0 * b.getD k 0 + c) :
    (0 ≤ d ∧ d ≤ 99) ∧ TimJ a b i (k + 1) (d / 10) (l.set (i + k) (d % 10)) := by
  have h1 := dg_getD h.dg (i + k)
  have h2 := dg_getD ha i
  have h3 := dg_getD hb k
  have h4 := h.c1
  have h5 : 0 ≤ a.getD i 0 * b.getD k 0 := Int.mul_nonneg h2.1 h3.1
  have h6 : a.getD i 0 * b.getD k 0 ≤ 9 * 9 := Int.mul_le_mul h2.2 h3.2 h3.1 (by omega)
  have hb1 : 0 ≤ d ∧ d ≤ 99 := by omega
  refine ⟨hb1, by rw [List.length_set]; exact h.len, by omega, h.dg.set _ (by omega), by omega, ?_⟩
  rw [lval_set (by rw [h.len]; omega), lval_take_succ, show i + (k + 1) = (i + k) + 1 by omega, p10_succ]
  have hv := h.val
  have e1 : (10 : Int) ^ i * (a.getD i 0 * (lval (b.take k) + 10 ^ k * b.getD k 0)) = 10 ^ i * (a.getD i 0 * lval (b.take k)) + 10 ^ (i + k) * (a.getD i 0 * b.getD k 0) := by
    rw [Int.pow_add, Int.mul_add, Int.mul_add, Int.mul_assoc (10 ^ i) (10 ^ k), Int.mul_left_comm (a.getD i 0) (10 ^ k)]
  rw [e1]
  generalize (10 : Int) ^ (i + k) = p at *
  generalize (10 : Int) ^ i * (a.getD i 0 * lval (b.take k)) = R at *
  generalize lval (a.take i) * lval b = S at *
  generalize a.getD i 0 * b.getD k 0 = m at *
  generalize l.getD (i + k) 0 = x at *
  have e2 : p * (d % 10 - x) + 10 * p * (d / 10) = p * (d - x) := by
    have e4 : p * (d % 10 - x + 10 * (d / 10)) = p * (d - x) := by congr 1; omega
    rw [Int.mul_add] at e4
    have e5 : 10 * p * (d / 10) = p * (10 * (d / 10)) := by rw [← Int.mul_assoc, Int.mul_comm p 10]
    omega
  have e3 : p * (d - x) = p * m + p * c := by rw [← Int.mul_add]; congr 1; omega
  omega
theorem TimJ.done {a b l : List Int} {i k : Nat} {c : Int} (h : TimJ a b i k c l) (ha : Dg a) (hb : Dg b) (hi : i < a.length) (hk : ¬ i + k < a.length + b.length + 1) : TimI a b (i + 1) l := by
  have hik := h.ik
  have hv := h.val
  have hbt : b.take k = b := List.take_of_length_le (by omega)
  have e1 : lval (a.take (i + 1)) * lval b = lval (a.take i) * lval b + 10 ^ i * (a.getD i 0 * lval b) := by
    rw [lval_take_succ, Int.add_mul, Int.mul_assoc]
  rw [hbt, ← e1] at hv
  have h1 := lval_nonneg h.dg
  have h2 : lval (a.take (i + 1)) < 10 ^ (i + 1) := by
    have := lval_lt (l := a.take (i + 1)) fun x hx => ha x (List.mem_of_mem_take hx)
    rwa [List.length_take, Nat.min_eq_left (by omega)] at this
  have h3 := lval_lt hb
  have h4 := lval_nonneg hb
  have h5 : lval (a.take (i + 1)) * lval b ≤ 10 ^ (i + 1) * lval b := Int.mul_le_mul_of_nonneg_right (by omega) h4
  have h6 : (10 : Int) ^ (i + 1) * lval b < 10 ^ (i + 1) * 10 ^ b.length := Int.mul_lt_mul_of_pos_left h3 (p10_pos _)
  rw [← Int.pow_add] at h6
  have h7 := p10_le (j := i + 1 + b.length) (k := i + k) (by omega)
  have hc : c = 0 := by
    have := h.c1
    by_cases hc : c = 0
    · exact hc
    · have h8 : (10 : Int) ^ (i + k) * 1 ≤ 10 ^ (i + k) * c := Int.mul_le_mul_of_nonneg_left (by omega) (by have := p10_pos (i + k); omega)
      omega
  rw [hc] at hv
  exact ⟨h.len, by omega, h.dg, by omega⟩
theorem TimI.done {a b l : List Int} {i : Nat} (h : TimI a b i l) (hi : ¬ i < a.length) : lval l = lval a * lval b := by
  have := h.le
  rw [h.val, List.take_of_length_le (by omega)]
end Go.XW.DI
/- Rows of parts of nine digits, the lowest first: plain laws, no program. -/
namespace Go.XW.DR
open Go.XW.DI

def Gd (l : List Int) : Prop := ∀ d ∈ l, 0 ≤ d ∧ d < 1000000000
def gval : List Int → Int
  | [] => 0
  | d :: l => d + 1000000000 * gval l
def gp (k : Nat) : Int := 1000000000 ^ k
theorem gp_pos (k : Nat) : 0 < gp k := Int.pow_pos (by omega)
theorem gp_zero : gp 0 = 1 := rfl
theorem gp_succ (k : Nat) : gp (k + 1) = 1000000000 * gp k := by unfold gp; rw [Int.pow_succ]; omega
theorem gp_add (j k : Nat) : gp (j + k) = gp j * gp k := Int.pow_add _ _ _
theorem gp_le {j k : Nat} (h : j ≤ k) : gp j ≤ gp k := by
  induction k with
  | zero => have : j = 0 := by omega
            subst this; exact Int.le_refl _
  | succ k ih =>
    by_cases hk : j = k + 1
    · subst hk; exact Int.le_refl _
    · have := ih (by omega); have := gp_pos k; rw [gp_succ]; omega
theorem Gd.tail {d : Int} {l : List Int} (h : Gd (d :: l)) : Gd l := fun x hx => h x (List.mem_cons_of_mem _ hx)
theorem Gd.head {d : Int} {l : List Int} (h : Gd (d :: l)) : 0 ≤ d ∧ d < 1000000000 := h d (by simp)
theorem Gd.append {a b : List Int} (h : Gd a) (h2 : Gd b) : Gd (a ++ b) := fun x hx => (List.mem_append.1 hx).elim (h x) (h2 x)
theorem Gd.snoc {l : List Int} (h : Gd l) {d : Int} (hd : 0 ≤ d ∧ d < 1000000000) : Gd (l ++ [d]) := h.append fun x hx => by simp at hx; subst hx; exact hd
theorem Gd.take {l : List Int} (h : Gd l) (k : Nat) : Gd (l.take k) := fun x hx => h x (List.mem_of_mem_take hx)
theorem Gd.drop {l : List Int} (h : Gd l) (k : Nat) : Gd (l.drop k) := fun x hx => h x (List.mem_of_mem_drop hx)
theorem Gd.set {l : List Int} (h : Gd l) (k : Nat) {u : Int} (hu : 0 ≤ u ∧ u < 1000000000) : Gd (l.set k u) := fun x hx => by
  rcases List.mem_or_eq_of_mem_set hx with hx | rfl
  · exact h x hx
  · exact hu
theorem Gd.getD {l : List Int} (h : Gd l) (i : Nat) : 0 ≤ l.getD i 0 ∧ l.getD i 0 < 1000000000 := by
  by_cases hi : i < l.length
  · have : l.getD i 0 = l[i] := by simp [List.getD, hi]
    rw [this]; exact h _ (List.getElem_mem hi)
  · have : l.getD i 0 = 0 := by simp [List.getD, List.getElem?_eq_none (Nat.le_of_not_lt hi)]
    rw [this]; omega
theorem gd_zeros (n : Nat) : Gd (List.replicate n 0) := fun x hx => by have := List.eq_of_mem_replicate hx; subst this; omega
theorem gval_nonneg : ∀ {l : List Int}, Gd l → 0 ≤ gval l
  | [], _ => by simp [gval]
  | d :: l, h => by have := gval_nonneg h.tail; have := h.head; simp only [gval]; omega
theorem gval_lt : ∀ {l : List Int}, Gd l → gval l < gp l.length
  | [], _ => by simp [gval, gp_zero]
  | d :: l, h => by have := gval_lt h.tail; have := h.head; simp only [gval, List.length_cons, gp_succ]; omega
theorem gval_append : ∀ (a b : List Int), gval (a ++ b) = gval a + gp a.length * gval b
  | [], b => by simp [gval, gp_zero]
  | d :: a, b => by
    have := gval_append a b
    simp only [List.cons_append, gval, List.length_cons, gp_succ, this, Int.mul_add, Int.mul_assoc]; omega
theorem gval_zeros (n : Nat) : gval (List.replicate n 0) = 0 := by
  induction n with
  | zero => rfl
  | succ n ih => rw [List.replicate_succ, gval, ih]; rfl
theorem gval_snoc (l : List Int) (d : Int) : gval (l ++ [d]) = gval l + gp l.length * d := by rw [gval_append]; simp [gval]
theorem gval_take_succ (a : List Int) (i : Nat) : gval (a.take (i + 1)) = gval (a.take i) + gp i * a.getD i 0 := by
  by_cases h : i < a.length
  · rw [take_getD h, gval_append, List.length_take, Nat.min_eq_left (by omega)]; simp [gval]
  · rw [List.take_of_length_le (by omega), List.take_of_length_le (by omega)]
    have : a.getD i 0 = 0 := by simp [List.getD, List.getElem?_eq_none (Nat.le_of_not_lt h)]
    rw [this]; omega
theorem gval_split {ds : List Int} {i : Nat} (hi : i < ds.length) : gval ds = gval (ds.take i) + gp i * (ds.getD i 0 + 1000000000 * gval (ds.drop (i + 1))) := by
  have h1 : ds = ds.take i ++ ds.drop i := (List.take_append_drop i ds).symm
  have h2 := gval_append (ds.take i) (ds.drop i)
  rw [← h1, drop_getD hi, List.length_take, show min i ds.length = i by omega] at h2
  exact h2
theorem gval_set {l : List Int} {j : Nat} (hj : j < l.length) (u : Int) : gval (l.set j u) = gval l + gp j * (u - l.getD j 0) := by
  rw [gval_split (ds := l.set j u) (by simpa using hj), gval_split hj, take_set_self, getD_set_self hj]
  have : (l.set j u).drop (j + 1) = l.drop (j + 1) := by
    rw [List.drop_set]; simp
  rw [this, Int.mul_add, Int.mul_add, Int.mul_sub]; omega
/-- A number's row. -/
def rown (n : Nat) : List Int := if h : n = 0 then [] else ((n % 1000000000 : Nat) : Int) :: rown (n / 1000000000)
theorem rown_zero : rown 0 = [] := by unfold rown; simp
theorem rown_succ {n : Nat} (h : n ≠ 0) : rown n = ((n % 1000000000 : Nat) : Int) :: rown (n / 1000000000) := by rw [rown, dif_neg h]
theorem rown_gd (n : Nat) : Gd (rown n) := by
  induction n using Nat.strongRecOn with
  | _ n ih =>
    by_cases h : n = 0
    · subst h; rw [rown_zero]; exact fun _ h => by cases h
    · rw [rown_succ h]
      intro d hd
      rcases List.mem_cons.1 hd with rfl | hd
      · omega
      · exact ih (n / 1000000000) (by omega) d hd
theorem rown_val (n : Nat) : gval (rown n) = n := by
  induction n using Nat.strongRecOn with
  | _ n ih =>
    by_cases h : n = 0
    · subst h; rw [rown_zero]; rfl
    · rw [rown_succ h, gval, ih (n / 1000000000) (by omega)]; omega
theorem rown_ne {n : Nat} (h : n ≠ 0) : rown n ≠ [] := by rw [rown_succ h]; simp
theorem rown_last {n : Nat} (h : n ≠ 0) : (rown n).getLast? ≠ some 0 := by
  induction n using Nat.strongRecOn with
  | _ n ih =>
    rw [rown_succ h]
    by_cases h2 : n / 1000000000 = 0
    · rw [h2, rown_zero]; simp; omega
    · have := ih (n / 1000000000) (by omega) h2
      rw [rown_succ h2] at *
      simpa [List.getLast?_cons_cons] using this
theorem gval_pos : ∀ {l : List Int}, Gd l → l ≠ [] → l.getLast? ≠ some 0 → 0 < gval l
  | [d], h, _, h2 => by
    have := h.head
    have : d ≠ 0 := by simpa using h2
    simp only [gval]; omega
  | d :: e :: l, h, _, h2 => by
    have := gval_pos (l := e :: l) h.tail (by simp) (by simpa [List.getLast?_cons_cons] using h2)
    have := h.head
    rw [gval]; omega
theorem rown_unique : ∀ {l : List Int}, Gd l → (l = [] ∨ l.getLast? ≠ some 0) → l = rown (gval l).toNat
  | [], _, _ => by rw [gval]; exact rown_zero.symm
  | [d], h, h2 => by
    have h3 := h.head
    have h4 : d ≠ 0 := by rcases h2 with h2 | h2
                          · cases h2
                          · simpa using h2
    have hv : gval [d] = d := by simp [gval]
    rw [hv, rown_succ (by omega), show d.toNat / 1000000000 = 0 by omega, rown_zero]
    congr 1; omega
  | d :: e :: l, h, h2 => by
    have h3 : (e :: l).getLast? ≠ some 0 := by rcases h2 with h2 | h2
                                               · cases h2
                                               · simpa [List.getLast?_cons_cons] using h2
    have hp := gval_pos h.tail (by simp) h3
    have ih := rown_unique h.tail (.inr h3)
    have hd := h.head
    rw [gval, rown_succ (by omega), show (d + 1000000000 * gval (e :: l)).toNat / 1000000000 = (gval (e :: l)).toNat by omega, ← ih]
    congr 1; omega
theorem gval_take0 {ds : List Int} {n : Nat} (h0 : ds.getD n 0 = 0) : gval (ds.take (n + 1)) = gval (ds.take n) := by
  rw [gval_take_succ, h0]; omega
/-- Without the noughts at the end. -/
theorem rown_trim {ds : List Int} (hd : Gd ds) {n : Nat} {V : Int} (hn : n ≤ ds.length) (hv : gval (ds.take n) = V) (hl : n = 0 ∨ ds.getD (n - 1) 0 ≠ 0) : ds.take n = rown V.toNat := by
  rw [← hv]
  refine rown_unique (hd.take n) ?_
  rcases hl with rfl | hl
  · exact .inl (by simp)
  · by_cases h0 : n = 0
    · subst h0; exact .inl (by simp)
    · refine .inr ?_
      rw [List.getLast?_eq_getElem?, List.length_take, show min n ds.length = n by omega, List.getElem?_take, if_pos (by omega)]
      intro he
      apply hl
      simp [List.getD, he]
theorem rown_len {m n : Nat} (h : m ≤ n) : (rown m).length ≤ (rown n).length := by
  induction n using Nat.strongRecOn generalizing m with
  | _ n ih =>
    by_cases h0 : m = 0
    · subst h0; rw [rown_zero]; simp
    · rw [rown_succ h0, rown_succ (by omega : n ≠ 0)]
      have := @ih (n / 1000000000) (by omega) (m / 1000000000) (by omega)
      simpa using this
end Go.XW.DR
/- Products of rows of parts: plain laws, no program. -/
namespace Go.XW.DR
open Go.XW.DI

structure GTi (a b : List Int) (i : Nat) (l : List Int) : Prop where
  len : l.length = a.length + b.length
  le : i ≤ a.length
  gd : Gd l
  top : ∀ p, i + b.length ≤ p → l.getD p 0 = 0
  val : gval l = gval (a.take i) * gval b
theorem getD_zeros (n p : Nat) : (List.replicate n (0 : Int)).getD p 0 = 0 := by
  simp only [List.getD, List.getElem?_replicate]; split <;> rfl
theorem GTi.zero (a b : List Int) : GTi a b 0 (List.replicate (a.length + b.length) 0) := ⟨by simp, by omega, gd_zeros _, fun p _ => getD_zeros _ p, by rw [gval_zeros]; simp [gval]⟩
structure GTj (a b : List Int) (i k : Nat) (c : Int) (l : List Int) : Prop where
  len : l.length = a.length + b.length
  kb : k ≤ b.length
  gd : Gd l
  c1 : 0 ≤ c ∧ c < 1000000000
  top : ∀ p, i + b.length ≤ p → l.getD p 0 = 0
  val : gval l + gp (i + k) * c = gval (a.take i) * gval b + gp i * (a.getD i 0 * gval (b.take k))
theorem GTj.zero {a b l : List Int} {i : Nat} (h : GTi a b i l) : GTj a b i 0 0 l := ⟨h.len, by omega, h.gd, by omega, h.top, by rw [h.val]; simp [gval]⟩
theorem mul_lt {x y : Int} (hx : 0 ≤ x ∧ x < 1000000000) (hy : 0 ≤ y ∧ y < 1000000000) : 0 ≤ x * y ∧ x * y ≤ 999999998000000001 := by
  refine ⟨Int.mul_nonneg hx.1 hy.1, ?_⟩
  have h1 : x * y ≤ 999999999 * 999999999 := Int.mul_le_mul (by omega) (by omega) hy.1 (by omega)
  omega
theorem GTj.step {a b l : List Int} {i k : Nat} {c : Int} (h : GTj a b i k c l) (ha : Gd a) (hb : Gd b) (hi : i < a.length) (hk : k < b.length) {d : Int} (hd : d = c + (a.getD i 0 * b.getD k 0 + l.getD (i + k) 0)) :
    (0 ≤ d ∧ d ≤ 999999999999999999) ∧ GTj a b i (k + 1) (d / 1000000000) (l.set (i + k) (d % 1000000000)) := by
  have h1 := h.gd.getD (i + k)
  have h5 := mul_lt (ha.getD i) (hb.getD k)
  have h4 := h.c1
  have hb1 : 0 ≤ d ∧ d ≤ 999999999999999999 := by omega
  refine ⟨hb1, by rw [List.length_set]; exact h.len, by omega, h.gd.set _ (by omega), by omega, fun p hp => ?_, ?_⟩
  · rw [Go.XW.DI.getD_set_ne (by omega)]; exact h.top p hp
  rw [gval_set (by rw [h.len]; omega), gval_take_succ, show i + (k + 1) = (i + k) + 1 by omega, gp_succ]
  have hv := h.val
  have e1 : gp i * (a.getD i 0 * (gval (b.take k) + gp k * b.getD k 0)) = gp i * (a.getD i 0 * gval (b.take k)) + gp (i + k) * (a.getD i 0 * b.getD k 0) := by
    rw [gp_add, Int.mul_add, Int.mul_add, Int.mul_assoc (gp i) (gp k), Int.mul_left_comm (a.getD i 0) (gp k)]
  rw [e1]
  generalize gp (i + k) = p at *
  generalize gp i * (a.getD i 0 * gval (b.take k)) = R at *
  generalize gval (a.take i) * gval b = S at *
  generalize a.getD i 0 * b.getD k 0 = m at *
  generalize l.getD (i + k) 0 = x at *
  have e2 : p * (d % 1000000000 - x) + 1000000000 * p * (d / 1000000000) = p * (d - x) := by
    have e4 : p * (d % 1000000000 - x + 1000000000 * (d / 1000000000)) = p * (d - x) := by congr 1; omega
    rw [Int.mul_add] at e4
    have e5 : 1000000000 * p * (d / 1000000000) = p * (1000000000 * (d / 1000000000)) := by rw [← Int.mul_assoc, Int.mul_comm p 1000000000]
    omega
  have e3 : p * (d - x) = p * m + p * c := by rw [← Int.mul_add]; congr 1; omega
  omega
theorem GTj.done {a b l : List Int} {i k : Nat} {c : Int} (h : GTj a b i k c l) (hi : i < a.length) (hk : ¬ k < b.length) : l.getD (i + b.length) 0 = 0 ∧ GTi a b (i + 1) (l.set (i + b.length) c) := by
  have hkb := h.kb
  have hke : k = b.length := by omega
  subst hke
  have h0 := h.top (i + b.length) (by omega)
  refine ⟨h0, by rw [List.length_set]; exact h.len, by omega, h.gd.set _ h.c1, fun p hp => ?_, ?_⟩
  · rw [Go.XW.DI.getD_set_ne (by omega)]; exact h.top p (by omega)
  rw [gval_set (by rw [h.len]; omega), h0, gval_take_succ, Int.add_mul, Int.mul_assoc]
  have hv := h.val
  rw [List.take_of_length_le (Nat.le_refl _)] at hv
  rw [Int.sub_zero]; exact hv
theorem GTi.done {a b l : List Int} {i : Nat} (h : GTi a b i l) (hi : ¬ i < a.length) : gval l = gval a * gval b := by
  have := h.le
  rw [h.val, List.take_of_length_le (by omega)]
theorem rown_mul_len (m n : Nat) : (rown (m * n)).length ≤ (rown m).length + (rown n).length := by
  have hm := gval_lt (rown_gd m); have hn := gval_lt (rown_gd n)
  rw [rown_val] at hm hn
  by_cases hlt : (rown m).length + (rown n).length < (rown (m * n)).length
  · exfalso
    have h0 : m * n ≠ 0 := fun h0 => by rw [h0, rown_zero] at hlt; simp at hlt
    have hl := rown_last h0
    have hg := rown_gd (m * n)
    have hv := rown_val (m * n)
    generalize rown (m * n) = r at *
    have hne : r ≠ [] := by rintro rfl; simp at hlt
    have hr : r.take (r.length - 1 + 1) = r := List.take_of_length_le (by omega)
    have h1 := gval_take_succ r (r.length - 1)
    rw [hr, hv] at h1
    have h2 := gval_nonneg (hg.take (r.length - 1))
    have h3 := (hg.getD (r.length - 1)).1
    have h4 : r.getD (r.length - 1) 0 ≠ 0 := fun h4 => hl (by
      rw [List.getLast?_eq_getElem?]
      have : r.length - 1 < r.length := by have := List.length_pos_iff.2 hne; omega
      simp [List.getD, this] at h4
      simp [this, h4])
    have h5 : gp (r.length - 1) * 1 ≤ gp (r.length - 1) * r.getD (r.length - 1) 0 := Int.mul_le_mul_of_nonneg_left (by omega) (by have := gp_pos (r.length - 1); omega)
    have h6 := gp_le (j := (rown m).length + (rown n).length) (k := r.length - 1) (by omega)
    rw [gp_add] at h6
    have h7 : (m : Int) * n ≤ m * gp (rown n).length := Int.mul_le_mul_of_nonneg_left (by omega) (by omega)
    have h8 : (m : Int) * gp (rown n).length < gp (rown m).length * gp (rown n).length := Int.mul_lt_mul_of_pos_right hm (gp_pos _)
    rw [Int.natCast_mul] at h1
    omega
  · omega
end Go.XW.DR
/- A row over one part: plain laws, no program. -/
namespace Go.XW.DR
open Go.XW.DI

structure ShI (a : List Int) (by_ : Int) (j : Nat) (left : Int) (l : List Int) : Prop where
  len : l.length = a.length
  le : j ≤ a.length
  gd : Gd l
  lt : 0 ≤ left ∧ left < by_
  val : gval (l.drop j) * by_ + left = gval (a.drop j)
theorem ShI.zero (a : List Int) {b : Int} (hb : 0 < b) : ShI a b a.length 0 (List.replicate a.length 0) := ⟨by simp, by omega, gd_zeros _, by omega, by rw [List.drop_of_length_le (by simp), List.drop_of_length_le (by simp)]; simp [gval]⟩
theorem ShI.step {a l : List Int} {b left : Int} {j : Nat} (h : ShI a b j left l) (ha : Gd a) (hb : 0 < b ∧ b ≤ 1000000000) (hj : 0 < j) {x : Int} (hx : x = left * 1000000000 + a.getD (j - 1) 0) :
    (0 ≤ x ∧ x < 1000000000000000000) ∧ ShI a b (j - 1) (x % b) (l.set (j - 1) (x / b)) := by
  have h1 := h.le
  have h2 := ha.getD (j - 1)
  have h3 := h.lt
  have h4 := h.len
  have hx1 : 0 ≤ x ∧ x < b * 1000000000 := by omega
  have hq1 : 0 ≤ x / b := Int.ediv_nonneg hx1.1 (by omega)
  have hq2 : x / b < 1000000000 := Int.ediv_lt_of_lt_mul hb.1 (by rw [Int.mul_comm]; exact hx1.2)
  refine ⟨by omega, by rw [List.length_set]; exact h4, by omega, h.gd.set _ ⟨hq1, hq2⟩, ⟨Int.emod_nonneg _ (by omega), Int.emod_lt_of_pos _ hb.1⟩, ?_⟩
  rw [drop_set_self (by omega), drop_getD (ns := a) (k := j - 1) (by omega), show j - 1 + 1 = j by omega, gval, gval]
  have h5 := h.val
  have h6 := Int.mul_ediv_add_emod x b
  rw [Int.add_mul, Int.mul_assoc]
  have h7 : x / b * b = b * (x / b) := Int.mul_comm _ _
  omega
theorem ShI.done {a l : List Int} {b left : Int} (h : ShI a b 0 left l) (hb : 0 < b) : gval l = gval a / b ∧ left = gval a % b := by
  have h1 := h.val
  have h2 := h.lt
  rw [List.drop_zero, List.drop_zero] at h1
  have h3 : gval a / b = gval l := by
    rw [← h1, Int.add_comm, Int.add_mul_ediv_right _ _ (by omega), Int.ediv_eq_zero_of_lt h2.1 h2.2]; omega
  have h4 : gval a % b = left := by rw [← h1, Int.add_comm, Int.add_mul_emod_self_right, Int.emod_eq_of_lt h2.1 h2.2]
  exact ⟨h3.symm, h4.symm⟩
end Go.XW.DR
/- Taking a row so many times away from parts, and laying it on again: plain laws, no program. -/
namespace Go.XW.DR
open Go.XW.DI

theorem drop_set_lt {l : List Int} {j k : Nat} (h : j < k) (u : Int) : (l.set j u).drop k = l.drop k := by
  rw [List.drop_set]; simp [h]
theorem take_set_le {l : List Int} {j k : Nat} (h : k ≤ j) (u : Int) : (l.set j u).take k = l.take k := by
  rw [List.take_set_of_le h]
theorem getD_of_drop {l m : List Int} {i j : Nat} (h : l.drop i = m.drop i) (hj : i ≤ j) : l.getD j 0 = m.getD j 0 := by
  have := congrArg (fun x => x.getD (j - i) 0) h
  simpa [List.getD, List.getElem?_drop, show i + (j - i) = j by omega] using this
theorem drop_more {l m : List Int} {i j : Nat} (h : l.drop i = m.drop i) (hj : i ≤ j) : l.drop j = m.drop j := by
  have := congrArg (List.drop (j - i)) h
  simpa [List.drop_drop, show i + (j - i) = j by omega] using this

/-- What 'take' keeps: behind i parts; c: carried, e: lent. -/
structure TkI (L v : List Int) (a m : Nat) (g : Int) (i : Nat) (c e : Int) (M : List Int) : Prop where
  len : M.length = L.length
  le : i ≤ m
  gd : Gd M
  c1 : 0 ≤ c ∧ c < 1000000000
  c0 : v.length < i → c = 0
  e1 : e = 0 ∨ e = 1
  low : M.take a = L.take a
  high : M.drop (a + i) = L.drop (a + i)
  val : gval M + gp a * (g * gval (v.take i)) = gval L + gp (a + i) * (c + e)
theorem TkI.zero {L v : List Int} {a m : Nat} {g : Int} (hL : Gd L) : TkI L v a m g 0 0 0 L := ⟨rfl, by omega, hL, by omega, fun _ => rfl, .inl rfl, rfl, rfl, by simp [gval]⟩
theorem TkI.step {L v M : List Int} {a m i : Nat} {g c e : Int} (h : TkI L v a m g i c e M) (hv : Gd v) (hL : Gd L) (hm : a + m ≤ L.length) (hi : i < m) (hg : 0 ≤ g ∧ g < 1000000000) {c1 e2 u : Int} (hc1 : c1 = c + g * v.getD i 0)
    (he2 : e2 = if M.getD (a + i) 0 < c1 % 1000000000 + e then 1 else 0) (hu : u = M.getD (a + i) 0 + 1000000000 * e2 - (c1 % 1000000000 + e)) :
    (0 ≤ c1 ∧ c1 < 1000000000000000000) ∧ (0 ≤ u ∧ u < 1000000000) ∧ TkI L v a m g (i + 1) (c1 / 1000000000) e2 (M.set (a + i) u) := by
  have h1 := h.c1
  have h2 := h.e1
  have h3 := h.gd.getD (a + i)
  have h4 := hv.getD i
  have h5 := mul_lt hg h4
  have hc : 0 ≤ c1 ∧ c1 < 1000000000000000000 := by omega
  have he : e2 = 0 ∨ e2 = 1 := by rw [he2]; split <;> omega
  have hu2 : 0 ≤ u ∧ u < 1000000000 := by
    rw [hu, he2]; split <;> omega
  refine ⟨hc, hu2, by rw [List.length_set]; exact h.len, by omega, h.gd.set _ hu2, by omega, fun hvl => ?_, he, ?_, ?_, ?_⟩
  · have : v.getD i 0 = 0 := by simp [List.getD, List.getElem?_eq_none (show v.length ≤ i by omega)]
    rw [this] at hc1
    by_cases hvi : v.length < i
    · have := h.c0 hvi; omega
    · omega
  · rw [take_set_le (by omega)]; exact h.low
  · rw [drop_set_lt (by omega)]; exact drop_more h.high (by omega)
  · rw [gval_set (by rw [h.len]; omega), gval_take_succ, show a + (i + 1) = (a + i) + 1 by omega, gp_succ]
    have hv2 := h.val
    have e1 : gp a * (g * (gval (v.take i) + gp i * v.getD i 0)) = gp a * (g * gval (v.take i)) + gp (a + i) * (g * v.getD i 0) := by
      rw [gp_add, Int.mul_add, Int.mul_add, Int.mul_assoc (gp a) (gp i), Int.mul_left_comm g (gp i)]
    rw [e1]
    generalize gp (a + i) = p at *
    generalize gp a * (g * gval (v.take i)) = R at *
    generalize g * v.getD i 0 = w at *
    generalize M.getD (a + i) 0 = x at *
    have e3 : p * (u - x) + p * w = 1000000000 * p * (c1 / 1000000000 + e2) - p * (c + e) := by
      have e4 : p * (u - x + w) = p * (1000000000 * (c1 / 1000000000 + e2) - (c + e)) := by congr 1; omega
      rw [Int.mul_add p (u - x), Int.mul_sub p (1000000000 * (c1 / 1000000000 + e2))] at e4
      have e5 : 1000000000 * p * (c1 / 1000000000 + e2) = p * (1000000000 * (c1 / 1000000000 + e2)) := by rw [← Int.mul_assoc, Int.mul_comm p 1000000000]
      omega
    omega
theorem TkI.done {L v M : List Int} {a m i : Nat} {g c e : Int} (h : TkI L v a m g i c e M) (hi : ¬ i < m) (hl : v.length < m) : c = 0 ∧ gval M + gp a * (g * gval v) = gval L + gp (a + m) * e := by
  have h1 := h.le
  have hie : i = m := by omega
  subst hie
  have hc := h.c0 (by omega)
  have hv := h.val
  rw [hc, List.take_of_length_le (by omega), Int.zero_add] at hv
  exact ⟨hc, hv⟩

/-- What 'give' keeps. -/
structure GvI (L v : List Int) (a m : Nat) (i : Nat) (c : Int) (M : List Int) : Prop where
  len : M.length = L.length
  le : i ≤ m
  gd : Gd M
  c1 : c = 0 ∨ c = 1
  low : M.take a = L.take a
  high : M.drop (a + i) = L.drop (a + i)
  val : gval M + gp (a + i) * c = gval L + gp a * gval (v.take i)
theorem GvI.zero {L v : List Int} {a m : Nat} (hL : Gd L) : GvI L v a m 0 0 L := ⟨rfl, by omega, hL, .inl rfl, rfl, rfl, by simp [gval]⟩
theorem GvI.step {L v M : List Int} {a m i : Nat} {c : Int} (h : GvI L v a m i c M) (hv : Gd v) (hm : a + m ≤ L.length) (hi : i < m) {d : Int} (hd : d = c + M.getD (a + i) 0 + v.getD i 0) :
    (0 ≤ d ∧ d < 2000000000) ∧ GvI L v a m (i + 1) (d / 1000000000) (M.set (a + i) (d % 1000000000)) := by
  have h2 := h.c1
  have h3 := h.gd.getD (a + i)
  have h4 := hv.getD i
  refine ⟨by omega, by rw [List.length_set]; exact h.len, by omega, h.gd.set _ (by omega), by omega, ?_, ?_, ?_⟩
  · rw [take_set_le (by omega)]; exact h.low
  · rw [drop_set_lt (by omega)]; exact drop_more h.high (by omega)
  · rw [gval_set (by rw [h.len]; omega), gval_take_succ, show a + (i + 1) = (a + i) + 1 by omega, gp_succ]
    have hv2 := h.val
    have e1 : gp a * (gval (v.take i) + gp i * v.getD i 0) = gp a * gval (v.take i) + gp (a + i) * v.getD i 0 := by
      rw [gp_add, Int.mul_add, Int.mul_assoc (gp a) (gp i)]
    rw [e1]
    generalize gp (a + i) = p at *
    generalize gp a * gval (v.take i) = R at *
    generalize v.getD i 0 = w at *
    generalize M.getD (a + i) 0 = x at *
    have e3 : p * (d % 1000000000 - x) + 1000000000 * p * (d / 1000000000) = p * w + p * c := by
      have e4 : p * (d % 1000000000 - x + 1000000000 * (d / 1000000000)) = p * (w + c) := by congr 1; omega
      rw [Int.mul_add, Int.mul_add] at e4
      have e5 : 1000000000 * p * (d / 1000000000) = p * (1000000000 * (d / 1000000000)) := by rw [← Int.mul_assoc, Int.mul_comm p 1000000000]
      omega
    omega
theorem GvI.done {L v M : List Int} {a m i : Nat} {c : Int} (h : GvI L v a m i c M) (hi : ¬ i < m) (hl : v.length ≤ m) : gval M + gp (a + m) * c = gval L + gp a * gval v := by
  have h1 := h.le
  have hie : i = m := by omega
  subst hie
  have hv := h.val
  rw [List.take_of_length_le hl] at hv
  exact hv
end Go.XW.DR
/- The guess of a part of a quotient: plain laws, no program. -/
namespace Go.XW.DR
open Go.XW.DI

/-- What a guess is made from: V by its two highest parts, W by its three. -/
structure Gs (V W P vt v2 hi u2 : Int) : Prop where
  pb : 0 < P
  vtb : 0 < vt ∧ vt < 1000000000
  v2b : 0 ≤ v2 ∧ v2 < 1000000000
  u2b : 0 ≤ u2 ∧ u2 < 1000000000
  hib : 0 ≤ hi
  vl : (vt * 1000000000 + v2) * P ≤ V
  vh : V < (vt * 1000000000 + v2 + 1) * P
  wl : (hi * 1000000000 + u2) * P ≤ W
  wh : W < (hi * 1000000000 + u2 + 1) * P
  lt : W < V * 1000000000
theorem Gs.pos {V W P vt v2 hi u2 : Int} (h : Gs V W P vt v2 hi u2) : 0 < V := by
  have h1 := h.vl
  have h2 := h.vtb
  have h3 := h.v2b
  have h4 : 0 < (vt * 1000000000 + v2) * P := Int.mul_pos (by omega) h.pb
  omega
theorem Gs.w0 {V W P vt v2 hi u2 : Int} (h : Gs V W P vt v2 hi u2) : 0 ≤ W := by
  have h1 := h.wl
  have h4 : 0 ≤ (hi * 1000000000 + u2) * P := Int.mul_nonneg (by have := h.hib; have := h.u2b; omega) (by have := h.pb; omega)
  omega
theorem lt_of_mul {a b p : Int} (hp : 0 < p) (h : a * p < b * p) : a < b := by
  by_cases hc : a < b
  · exact hc
  · have := Int.mul_le_mul_of_nonneg_right (show b ≤ a by omega) (show 0 ≤ p by omega)
    omega
theorem Gs.q {V W P vt v2 hi u2 : Int} (h : Gs V W P vt v2 hi u2) : 0 ≤ W / V ∧ W / V < 1000000000 ∧ W / V * (vt * 1000000000 + v2) ≤ hi * 1000000000 + u2 := by
  have hV := h.pos
  have q0 : 0 ≤ W / V := Int.ediv_nonneg h.w0 (by omega)
  have q1 : W / V * V ≤ W := Int.ediv_mul_le W (by omega)
  have q2 : W / V < 1000000000 := Int.ediv_lt_of_lt_mul hV (by rw [Int.mul_comm]; exact h.lt)
  refine ⟨q0, q2, ?_⟩
  have h1 := Int.mul_le_mul_of_nonneg_left h.vl q0
  rw [← Int.mul_assoc] at h1
  have h2 : W / V * (vt * 1000000000 + v2) * P < (hi * 1000000000 + u2 + 1) * P := by have := h.wh; omega
  have := lt_of_mul h.pb h2
  omega
theorem Gs.hle {V W P vt v2 hi u2 : Int} (h : Gs V W P vt v2 hi u2) : hi < vt * 1000000000 + 1000000000 := by
  have h1 : V * 1000000000 < (vt * 1000000000 + v2 + 1) * P * 1000000000 := Int.mul_lt_mul_of_pos_right h.vh (by omega)
  have h2 : (vt * 1000000000 + v2 + 1) * P * 1000000000 = (vt * 1000000000 + v2 + 1) * 1000000000 * P := Int.mul_right_comm _ _ _
  have h3 := h.wl
  have h4 := h.lt
  have := lt_of_mul h.pb (show (hi * 1000000000 + u2) * P < (vt * 1000000000 + v2 + 1) * 1000000000 * P by omega)
  have := h.v2b; have := h.u2b
  omega
/-- A guess, and what is left of the two highest parts. -/
structure Gu (q vt hi g r : Int) : Prop where
  val : g * vt + r = hi
  r0 : 0 ≤ r
  ql : q ≤ g
theorem Gu.zero {V W P vt v2 hi u2 : Int} (h : Gs V W P vt v2 hi u2) : Gu (W / V) vt hi (hi / vt) (hi % vt) := by
  obtain ⟨q0, q1, q2⟩ := h.q
  have hv := h.vtb
  refine ⟨by rw [Int.mul_comm]; exact Int.mul_ediv_add_emod hi vt, Int.emod_nonneg _ (by omega), Int.le_ediv_of_mul_le hv.1 ?_⟩
  have h1 : 0 ≤ W / V * v2 := Int.mul_nonneg q0 h.v2b.1
  rw [Int.mul_add, ← Int.mul_assoc] at q2
  have := h.u2b
  omega
theorem Gu.le {V W P vt v2 hi u2 g r : Int} (h : Gs V W P vt v2 hi u2) (hg : Gu (W / V) vt hi g r) : 0 ≤ g ∧ g < 2000000000 := by
  have h1 := h.hle
  have h2 := hg.val
  have h3 := hg.r0
  have h4 := hg.ql
  have h5 := h.q.1
  have h6 := h.vtb
  refine ⟨by omega, ?_⟩
  by_cases hc : g < 2000000000
  · exact hc
  · have h7 : 2000000000 * vt ≤ g * vt := Int.mul_le_mul_of_nonneg_right (by omega) (by omega)
    omega
theorem Gu.step {V W P vt v2 hi u2 g r : Int} (h : Gs V W P vt v2 hi u2) (hg : Gu (W / V) vt hi g r) (hc : 1000000000 ≤ g ∨ r * 1000000000 + u2 < g * v2) : Gu (W / V) vt hi (g - 1) (r + vt) ∧ 1 ≤ g := by
  obtain ⟨q0, q1, q2⟩ := h.q
  have h2 := hg.val
  have h4 := hg.ql
  have hlt : W / V < g := by
    rcases hc with hc | hc
    · omega
    · by_cases he : W / V = g
      · exfalso
        rw [he, Int.mul_add, ← Int.mul_assoc] at q2
        omega
      · omega
  refine ⟨⟨?_, by have := hg.r0; have := h.vtb; omega, by omega⟩, by omega⟩
  rw [Int.sub_mul]; omega
theorem Gu.done {V W P vt v2 hi u2 g r : Int} (h : Gs V W P vt v2 hi u2) (hg : Gu (W / V) vt hi g r) (hc : ¬ (r < 1000000000 ∧ (1000000000 ≤ g ∨ r * 1000000000 + u2 < g * v2))) : g < 1000000000 ∧ (g = W / V ∨ g = W / V + 1) := by
  have h0 := hg.le h
  have h1 := h.hle
  have h2 := hg.val
  have h3 := h.vtb
  have h4 := h.v2b
  have h5 := h.u2b
  have g1 : g < 1000000000 := by
    by_cases hg1 : g < 1000000000
    · exact hg1
    · have h7 : 1000000000 * vt ≤ g * vt := Int.mul_le_mul_of_nonneg_right (by omega) (by omega)
      omega
  have h6 := mul_lt ⟨h0.1, g1⟩ h4
  have h7 : g * v2 ≤ r * 1000000000 + u2 := by omega
  have h8 : g * (vt * 1000000000 + v2) ≤ hi * 1000000000 + u2 := by
    rw [Int.mul_add, ← Int.mul_assoc]; omega
  refine ⟨g1, ?_⟩
  have hq := hg.ql
  have hq2 : g - 1 ≤ W / V := by
    by_cases hz : g = 0
    · have := h.q.1; omega
    refine Int.le_ediv_of_mul_le h.pos ?_
    have k1 : (g - 1) * V ≤ (g - 1) * ((vt * 1000000000 + v2 + 1) * P) := Int.mul_le_mul_of_nonneg_left (by have := h.vh; omega) (by omega)
    rw [← Int.mul_assoc] at k1
    have k2 : (g - 1) * (vt * 1000000000 + v2 + 1) ≤ hi * 1000000000 + u2 := by
      rw [Int.sub_mul, Int.mul_add g _ 1]; omega
    have k3 := Int.mul_le_mul_of_nonneg_right k2 (show 0 ≤ P by have := h.pb; omega)
    have := h.wl
    omega
  omega
end Go.XW.DR
/- One row over another one, part by part: plain laws, no program. -/
namespace Go.XW.DR
open Go.XW.DI

theorem gval_parts (L : List Int) (a : Nat) (h : a ≤ L.length) : gval L = gval (L.take a) + gp a * gval (L.drop a) := by
  have h1 := gval_append (L.take a) (L.drop a)
  rw [List.take_append_drop, List.length_take, show min a L.length = a by omega] at h1
  exact h1
/-- The rounds: behind those from the top down to j. -/
structure OvI (U V : Int) (n N j : Nat) (L l : List Int) : Prop where
  len : L.length = N
  ll : l.length = N - n
  jl : j ≤ N - n
  gd : Gd L
  gl : Gd l
  val : gval L + gp j * (gval (l.drop j) * V) = U
  lt : gval L < gp j * V

theorem alg1 (P x y : Int) : (x * 1000000000 + y) * P = 1000000000 * (P * x) + P * y := by
  rw [Int.add_mul, Int.mul_comm x 1000000000, Int.mul_assoc, Int.mul_comm x P, Int.mul_comm y P]
theorem alg2 (P x y : Int) : (x * 1000000000 + y + 1) * P = 1000000000 * (P * x) + P * y + P := by
  rw [Int.add_mul, alg1, Int.one_mul]
theorem alg3 (P x y : Int) : P * (x * 1000000000 + y) = 1000000000 * (P * x) + P * y := by rw [Int.mul_comm, alg1]

/-- The parts of a round. -/
theorem OvI.gs {U V : Int} {n N j : Nat} {L l v : List Int} (h : OvI U V n N j L l) (hv : Gd v) (hn : v.length = n) (hn2 : 2 ≤ n) (hV : V = gval v) (hj : 0 < j) (hnN : n ≤ N) (ht : v.getD (n - 1) 0 ≠ 0) :
    Gs V (gval (L.drop (j - 1))) (gp (n - 2)) (v.getD (n - 1) 0) (v.getD (n - 2) 0) (L.getD (j - 1 + n) 0 * 1000000000 + L.getD (j - 1 + n - 1) 0) (L.getD (j - 1 + n - 2) 0) ∧ gval (L.drop (j - 1 + (n + 1))) = 0 := by
  have hlen := h.len
  have hjl := h.jl
  have hlt := h.lt
  have g1 := hv.getD (n - 1)
  have g2 := hv.getD (n - 2)
  have u0 := h.gd.getD (j - 1 + n)
  have u1 := h.gd.getD (j - 1 + n - 1)
  have u2 := h.gd.getD (j - 1 + n - 2)
  have hp := gp_pos (n - 2)
  have hpj := gp_pos (j - 1)
  -- V by its highest parts
  have v1 := gval_take_succ v (n - 1)
  rw [show n - 1 + 1 = n by omega, List.take_of_length_le (by omega)] at v1
  have v2 := gval_take_succ v (n - 2)
  rw [show n - 2 + 1 = n - 1 by omega] at v2
  have v3 := gval_nonneg (hv.take (n - 2))
  have v4 := gval_lt (hv.take (n - 2))
  rw [List.length_take, show min (n - 2) v.length = n - 2 by omega] at v4
  have ep : gp (n - 1) = 1000000000 * gp (n - 2) := by rw [← gp_succ]; congr 1; omega
  rw [v2, ep] at v1
  -- W by its highest parts
  have hV2 := gval_lt hv
  rw [hn] at hV2
  have p1 := gval_parts L (j - 1) (by omega)
  have p2 := gval_nonneg (h.gd.take (j - 1))
  have hW : gval (L.drop (j - 1)) < V * 1000000000 := by
    have e1 : gp j * V = V * 1000000000 * gp (j - 1) := by
      rw [show j = (j - 1) + 1 by omega, gp_succ, show j - 1 + 1 - 1 = j - 1 by omega]
      rw [Int.mul_comm (1000000000 * gp (j - 1)) V, Int.mul_assoc]
    have e2 : gp (j - 1) * gval (L.drop (j - 1)) = gval (L.drop (j - 1)) * gp (j - 1) := Int.mul_comm _ _
    exact lt_of_mul hpj (by omega)
  have w0 : ∀ i, (L.drop (j - 1)).getD i 0 = L.getD (j - 1 + i) 0 := fun i => by simp [List.getD]
  have hWd := h.gd.drop (j - 1)
  have hwl : (L.drop (j - 1)).length = N - (j - 1) := by simp [hlen]
  have t1 := gval_take_succ (L.drop (j - 1)) n
  have t2 := gval_take_succ (L.drop (j - 1)) (n - 1)
  have t3 := gval_take_succ (L.drop (j - 1)) (n - 2)
  rw [show n - 1 + 1 = n by omega] at t2
  rw [show n - 2 + 1 = n - 1 by omega] at t3
  rw [w0] at t1 t2 t3
  rw [show j - 1 + (n - 1) = j - 1 + n - 1 by omega] at t2
  rw [show j - 1 + (n - 2) = j - 1 + n - 2 by omega] at t3
  have t4 := gval_nonneg (hWd.take (n - 2))
  have t5 := gval_lt (hWd.take (n - 2))
  rw [List.length_take, hwl, show min (n - 2) (N - (j - 1)) = n - 2 by omega] at t5
  have t6 := gval_parts (L.drop (j - 1)) (n + 1) (by omega)
  rw [List.drop_drop] at t6
  have t7 := gval_nonneg (h.gd.drop (j - 1 + (n + 1)))
  have t8 := gval_nonneg (hWd.take (n + 1))
  have en : gp n = 1000000000 * gp (n - 1) := by rw [← gp_succ]; congr 1; omega
  have hz : gval (L.drop (j - 1 + (n + 1))) = 0 := by
    by_cases hz : gval (L.drop (j - 1 + (n + 1))) = 0
    · exact hz
    · have h1 : gp (n + 1) * 1 ≤ gp (n + 1) * gval (L.drop (j - 1 + (n + 1))) := Int.mul_le_mul_of_nonneg_left (by omega) (by have := gp_pos (n + 1); omega)
      rw [gp_succ] at h1 t6
      omega
  rw [hz, t1, t2, t3, en, ep, Int.mul_zero, Int.add_zero] at t6
  refine ⟨⟨hp, by omega, g2, u2, by omega, ?_, ?_, ?_, ?_, hW⟩, hz⟩
  · rw [hV, v1, alg1, Int.mul_assoc]; omega
  · rw [hV, v1, alg2, Int.mul_assoc]; omega
  · rw [t6, alg1, alg3, Int.mul_assoc 1000000000 (1000000000 * gp (n - 2)), Int.mul_assoc 1000000000 (gp (n - 2)), Int.mul_assoc 1000000000 (gp (n - 2))]; omega
  · rw [t6, alg2, alg3, Int.mul_assoc 1000000000 (1000000000 * gp (n - 2)), Int.mul_assoc 1000000000 (gp (n - 2)), Int.mul_assoc 1000000000 (gp (n - 2))]; omega

theorem seg {L M : List Int} {a n N : Nat} (hM : Gd M) (hl : M.length = N) (han : a + n + 1 ≤ N) (hlow : M.take a = L.take a) (hz : gval (M.drop (a + (n + 1))) = 0) :
    gval M = gval (L.take a) + gp a * gval (M.drop a) ∧ 0 ≤ gval (M.drop a) ∧ gval (M.drop a) < gp (n + 1) := by
  have p1 := gval_parts M a (by omega)
  rw [hlow] at p1
  have p2 := gval_parts (M.drop a) (n + 1) (by simp; omega)
  rw [List.drop_drop, hz, Int.mul_zero, Int.add_zero] at p2
  have p3 := gval_lt ((hM.drop a).take (n + 1))
  rw [List.length_take, List.length_drop, hl, show min (n + 1) (N - a) = n + 1 by omega] at p3
  exact ⟨p1, gval_nonneg (hM.drop a), by omega⟩
theorem mul_cancel {p x y : Int} (hp : 0 < p) (h : p * x = p * y) : x = y := Int.eq_of_mul_eq_mul_left (by omega) h

/-- Behind 'take': right at once, or one too much. -/
theorem OvI.took {U V : Int} {n N j : Nat} {L l v M : List Int} {g e : Int} (h : OvI U V n N j L l) (hv : Gd v) (hn : v.length = n) (hV : V = gval v) (hV0 : 0 < V) (hj : 0 < j) (hnN : n ≤ N)
    (hz : gval (L.drop (j - 1 + (n + 1))) = 0) (hg : g = gval (L.drop (j - 1)) / V ∨ g = gval (L.drop (j - 1)) / V + 1) (ht : TkI L v (j - 1) (n + 1) g (n + 1) 0 e M) :
    gval M = gval (L.take (j - 1)) + gp (j - 1) * gval (M.drop (j - 1)) ∧ gval (M.drop (j - 1 + (n + 1))) = 0 ∧
    ((g = gval (L.drop (j - 1)) / V ∧ e = 0 ∧ gval (M.drop (j - 1)) = gval (L.drop (j - 1)) % V) ∨ (g = gval (L.drop (j - 1)) / V + 1 ∧ e = 1 ∧ gval (M.drop (j - 1)) = gval (L.drop (j - 1)) % V - V + gp (n + 1))) := by
  have hlen := h.len
  have hjl := h.jl
  have hz2 : gval (M.drop (j - 1 + (n + 1))) = 0 := by rw [ht.high]; exact hz
  obtain ⟨s1, s2, s3⟩ := seg (n := n) ht.gd (by rw [ht.len, hlen]) (by omega) ht.low hz2
  obtain ⟨r1, r2, r3⟩ := seg (n := n) h.gd hlen (by omega) rfl hz
  have hpj := gp_pos (j - 1)
  have hval := ht.val
  rw [List.take_of_length_le (by omega), ← hV, s1, r1, gp_add, Int.zero_add, Int.mul_assoc] at hval
  have k1 : gp (j - 1) * (gval (M.drop (j - 1)) + g * V) = gp (j - 1) * (gval (L.drop (j - 1)) + gp (n + 1) * e) := by
    rw [Int.mul_add, Int.mul_add]; omega
  have k2 := mul_cancel hpj k1
  have hvl := gval_lt hv
  rw [hn, ← hV] at hvl
  have hgn := gp_le (show n ≤ n + 1 by omega)
  have m1 := Int.mul_ediv_add_emod (gval (L.drop (j - 1))) V
  rw [Int.mul_comm] at m1
  have m2 := Int.emod_nonneg (gval (L.drop (j - 1))) (show V ≠ 0 by omega)
  have m3 := Int.emod_lt_of_pos (gval (L.drop (j - 1))) hV0
  refine ⟨s1, hz2, ?_⟩
  generalize gval (L.drop (j - 1)) / V = q at *
  generalize gval (L.drop (j - 1)) % V = r at *
  generalize gval (L.drop (j - 1)) = W at *
  generalize gval (M.drop (j - 1)) = W2 at *
  generalize gp (n + 1) = G at *
  rcases hg with rfl | rfl
  · refine .inl ⟨rfl, ?_⟩
    rcases ht.e1 with he | he <;> rw [he] at k2 ⊢ <;> omega
  · refine .inr ⟨rfl, ?_⟩
    rw [Int.add_mul] at k2
    rcases ht.e1 with he | he <;> rw [he] at k2 ⊢ <;> omega
/-- Behind 'give', where it was one too much. -/
theorem OvI.gave {U V : Int} {n N j : Nat} {L l v M M2 : List Int} {c : Int} (h : OvI U V n N j L l) (hv : Gd v) (hn : v.length = n) (hV : V = gval v) (hV0 : 0 < V) (hj : 0 < j) (hnN : n ≤ N)
    (hM1 : M.take (j - 1) = L.take (j - 1)) (hM2 : gval M = gval (L.take (j - 1)) + gp (j - 1) * gval (M.drop (j - 1))) (hM3 : gval (M.drop (j - 1 + (n + 1))) = 0) (hM4 : M.length = N)
    (hM5 : gval (M.drop (j - 1)) = gval (L.drop (j - 1)) % V - V + gp (n + 1)) (ht : GvI M v (j - 1) (n + 1) (n + 1) c M2) :
    gval M2 = gval (L.take (j - 1)) + gp (j - 1) * gval (M2.drop (j - 1)) ∧ gval (M2.drop (j - 1)) = gval (L.drop (j - 1)) % V := by
  have hlen := h.len
  have hjl := h.jl
  have hz2 : gval (M2.drop (j - 1 + (n + 1))) = 0 := by rw [ht.high]; exact hM3
  obtain ⟨s1, s2, s3⟩ := seg (L := L) (n := n) ht.gd (by rw [ht.len, hM4]) (by omega) (ht.low.trans hM1) hz2
  have hpj := gp_pos (j - 1)
  have hval := ht.val
  rw [List.take_of_length_le (by omega), ← hV, s1, hM2, gp_add, Int.mul_assoc] at hval
  have k1 : gp (j - 1) * (gval (M2.drop (j - 1)) + gp (n + 1) * c) = gp (j - 1) * (gval (M.drop (j - 1)) + V) := by
    rw [Int.mul_add, Int.mul_add]; omega
  have k2 := mul_cancel hpj k1
  have m2 := Int.emod_nonneg (gval (L.drop (j - 1))) (show V ≠ 0 by omega)
  have hvl := gval_lt hv
  rw [hn, ← hV] at hvl
  have hgn := gp_le (show n ≤ n + 1 by omega)
  have m3 := Int.emod_lt_of_pos (gval (L.drop (j - 1))) hV0
  refine ⟨s1, ?_⟩
  rw [hM5] at k2
  rcases ht.c1 with hc | hc <;> rw [hc] at k2 <;> omega
theorem OvI.next {U V : Int} {n N j : Nat} {L l M : List Int} {q : Int} (h : OvI U V n N j L l) (hV0 : 0 < V) (hj : 0 < j) (hq : q = gval (L.drop (j - 1)) / V) (hq2 : 0 ≤ q ∧ q < 1000000000)
    (hM : Gd M) (hM1 : M.length = N) (hM2 : gval M = gval (L.take (j - 1)) + gp (j - 1) * gval (M.drop (j - 1))) (hM3 : gval (M.drop (j - 1)) = gval (L.drop (j - 1)) % V) : OvI U V n N (j - 1) M (l.set (j - 1) q) := by
  have hlen := h.len
  have hll := h.ll
  have hjl := h.jl
  have hpj := gp_pos (j - 1)
  have p1 := gval_parts L (j - 1) (by omega)
  have m1 := Int.mul_ediv_add_emod (gval (L.drop (j - 1))) V
  rw [← hq] at m1
  have m3 := Int.emod_lt_of_pos (gval (L.drop (j - 1))) hV0
  have p2 := gval_lt (h.gd.take (j - 1))
  rw [List.length_take, show min (j - 1) L.length = j - 1 by omega] at p2
  refine ⟨hM1, by rw [List.length_set]; exact hll, by omega, hM, h.gl.set _ hq2, ?_, ?_⟩
  · rw [drop_set_self (by omega), gval, show j - 1 + 1 = j by omega, hM2, hM3, Int.add_mul, Int.mul_assoc]
    have hv := h.val
    have e1 : gp j = 1000000000 * gp (j - 1) := by rw [← gp_succ]; congr 1; omega
    rw [p1, e1, Int.mul_assoc] at hv
    generalize gval (l.drop j) * V = Z at *
    generalize gval (L.drop (j - 1)) % V = r at *
    generalize gp (j - 1) = p at *
    rw [← m1, Int.mul_add, Int.mul_comm V q] at hv
    rw [Int.mul_add p (q * V)]
    have e2 : p * (1000000000 * Z) = 1000000000 * (p * Z) := Int.mul_left_comm _ _ _
    omega
  · rw [hM2, hM3]
    have h1 : gp (j - 1) * (gval (L.drop (j - 1)) % V) ≤ gp (j - 1) * (V - 1) := Int.mul_le_mul_of_nonneg_left (by omega) (by omega)
    rw [Int.mul_sub] at h1
    omega
theorem OvI.done {U V : Int} {n N : Nat} {L l : List Int} (h : OvI U V n N 0 L l) (hV0 : 0 < V) : gval l = U / V ∧ gval L = U % V := by
  have h1 := h.val
  have h2 := h.lt
  have h3 := gval_nonneg h.gd
  rw [gp_zero, Int.one_mul, List.drop_zero] at h1
  rw [gp_zero, Int.one_mul] at h2
  rw [← h1, Int.add_mul_ediv_right _ _ (by omega), Int.add_mul_emod_self_right, Int.ediv_eq_zero_of_lt h3 h2, Int.emod_eq_of_lt h3 h2]
  exact ⟨by omega, rfl⟩

theorem rown_len_le : ∀ {k v : Nat}, (v : Int) < gp k → (rown v).length ≤ k
  | 0, v, h => by
    have : v = 0 := by rw [gp_zero] at h; omega
    subst this; rw [rown_zero]; simp
  | k + 1, v, h => by
    by_cases h0 : v = 0
    · subst h0; rw [rown_zero]; simp
    · rw [rown_succ h0]
      have := rown_len_le (k := k) (v := v / 1000000000) (by rw [gp_succ] at h; omega)
      simpa using this
theorem rown_high (v : Nat) : (v : Int) < gp (rown v).length := by have := gval_lt (rown_gd v); rwa [rown_val] at this
theorem rown_top {v : Nat} (h : v ≠ 0) : (rown v).getD ((rown v).length - 1) 0 ≠ 0 := fun h4 => rown_last h (by
  have hl := List.length_pos_iff.2 (rown_ne h)
  rw [List.getLast?_eq_getElem?]
  have : (rown v).length - 1 < (rown v).length := by omega
  simp [List.getD, this] at h4
  simp [this, h4])
/-- What the divisor is made great with. -/
structure Sc (m n : Nat) (s : Int) : Prop where
  s0 : 1 ≤ s ∧ s ≤ 500000000
  vl : (rown (n * s.toNat)).length = (rown n).length
  ul : (rown (m * s.toNat)).length ≤ (rown m).length + 1
  lt : ((m * s.toNat : Nat) : Int) < gp ((rown m).length + 1 - (rown n).length) * ((n * s.toNat : Nat) : Int)
theorem Sc.mk' {m n : Nat} (hn : n ≠ 0) (hl : (rown n).length ≤ (rown m).length) : Sc m n (1000000000 / ((rown n).getD ((rown n).length - 1) 0 + 1)) := by
  have hg := (rown_gd n).getD ((rown n).length - 1)
  have ht := rown_top hn
  have hp := List.length_pos_iff.2 (rown_ne hn)
  have h1 := gval_take_succ (rown n) ((rown n).length - 1)
  rw [show (rown n).length - 1 + 1 = (rown n).length by omega, List.take_length, rown_val] at h1
  have h2 := gval_nonneg ((rown_gd n).take ((rown n).length - 1))
  have h3 := gval_lt ((rown_gd n).take ((rown n).length - 1))
  rw [List.length_take, show min ((rown n).length - 1) (rown n).length = (rown n).length - 1 by omega] at h3
  have hm := rown_high m
  generalize (rown n).getD ((rown n).length - 1) 0 = t at *
  have s1 : 1 ≤ 1000000000 / (t + 1) := Int.le_ediv_of_mul_le (by omega) (by omega)
  have s2 : 1000000000 / (t + 1) ≤ 500000000 := by
    have := Int.ediv_lt_of_lt_mul (a := 1000000000) (b := 500000001) (c := t + 1) (by omega) (by omega)
    omega
  have s3 : 1000000000 / (t + 1) * (t + 1) ≤ 1000000000 := Int.ediv_mul_le _ (by omega)
  generalize 1000000000 / (t + 1) = s at *
  have es : (s.toNat : Int) = s := by omega
  have gpn : gp (rown n).length = 1000000000 * gp ((rown n).length - 1) := by rw [← gp_succ]; congr 1; omega
  have hp1 := gp_pos ((rown n).length - 1)
  have k1 : (n : Int) * s < gp (rown n).length := by
    have a1 : (n : Int) < gp ((rown n).length - 1) * (t + 1) := by rw [Int.mul_add]; omega
    have a2 : (n : Int) * s < gp ((rown n).length - 1) * (t + 1) * s := Int.mul_lt_mul_of_pos_right a1 (by omega)
    have a3 : gp ((rown n).length - 1) * (t + 1) * s = gp ((rown n).length - 1) * (s * (t + 1)) := by rw [Int.mul_assoc, Int.mul_comm (t + 1)]
    have a4 : gp ((rown n).length - 1) * (s * (t + 1)) ≤ gp ((rown n).length - 1) * 1000000000 := Int.mul_le_mul_of_nonneg_left s3 (by omega)
    omega
  refine ⟨by omega, ?_, ?_, ?_⟩
  · have b1 : (rown (n * s.toNat)).length ≤ (rown n).length := rown_len_le (by rw [Int.natCast_mul, es]; exact k1)
    have b2 := rown_len (show n ≤ n * s.toNat from Nat.le_mul_of_pos_right n (by omega))
    omega
  · refine rown_len_le ?_
    rw [Int.natCast_mul, es, gp_succ]
    have c1 : (m : Int) * s ≤ m * 500000000 := Int.mul_le_mul_of_nonneg_left s2 (by omega)
    omega
  · rw [Int.natCast_mul, Int.natCast_mul, es, ← Int.mul_assoc]
    refine Int.mul_lt_mul_of_pos_right ?_ (by omega)
    have d1 : gp ((rown n).length - 1) * 1 ≤ gp ((rown n).length - 1) * t := Int.mul_le_mul_of_nonneg_left (by omega) (by omega)
    have d2 : gp ((rown m).length + 1 - (rown n).length) * gp ((rown n).length - 1) = gp (rown m).length := by rw [← gp_add]; congr 1; omega
    have d3 : gp ((rown m).length + 1 - (rown n).length) * gp ((rown n).length - 1) ≤ gp ((rown m).length + 1 - (rown n).length) * n := Int.mul_le_mul_of_nonneg_left (by omega) (by have := gp_pos ((rown m).length + 1 - (rown n).length); omega)
    omega
theorem OvI.zero {U V : Int} {n N : Nat} {L : List Int} (hl : L.length = N) (hL : Gd L) (hU : gval L = U) (hlt : U < gp (N - n) * V) : OvI U V n N (N - n) L (List.replicate (N - n) 0) :=
  ⟨hl, by simp, by omega, hL, gd_zeros _, by rw [List.drop_of_length_le (by simp), hU]; simp [gval], by rw [hU]; exact hlt⟩
end Go.XW.DR
/- Whole roots. -/
namespace Go.XW.DR
open Go.XW.DU
open Go.XW.DI hiding fm body sgn sizeI digs
/-- The greatest whole number whose square isn't above m. -/
def rt : Nat → Nat
  | 0 => 0
  | m + 1 => if (rt m + 1) * (rt m + 1) ≤ m + 1 then rt m + 1 else rt m
theorem rt_spec : ∀ m, rt m * rt m ≤ m ∧ m < (rt m + 1) * (rt m + 1)
  | 0 => by simp [rt]
  | m + 1 => by
    obtain ⟨h1, h2⟩ := rt_spec m
    rw [rt]
    split
    · rename_i h
      refine ⟨h, ?_⟩
      have : (rt m + 1) * (rt m + 1) < (rt m + 1 + 1) * (rt m + 1 + 1) := Nat.mul_lt_mul'' (by omega) (by omega)
      omega
    · omega
theorem rt_le {m r : Nat} (h : r * r ≤ m) : r ≤ rt m := by
  obtain ⟨_, h2⟩ := rt_spec m
  refine Nat.le_of_not_lt fun hc => ?_
  have := Nat.mul_le_mul (show rt m + 1 ≤ r from hc) (show rt m + 1 ≤ r from hc)
  omega
theorem rt_unique {m r : Nat} (h : r * r ≤ m) (h2 : m < (r + 1) * (r + 1)) : r = rt m := by
  have h3 := rt_le h
  obtain ⟨h4, _⟩ := rt_spec m
  refine Nat.le_antisymm h3 (Nat.le_of_not_lt fun hc => ?_)
  have := Nat.mul_le_mul (show r + 1 ≤ rt m from hc) (show r + 1 ≤ rt m from hc)
  omega
theorem rt_lt {m r : Nat} (h : m < r * r) : rt m < r := by
  obtain ⟨h4, _⟩ := rt_spec m
  refine Nat.lt_of_not_le fun hc => ?_
  have := Nat.mul_le_mul hc hc
  omega
theorem rt_pos {m : Nat} (h : 0 < m) : 0 < rt m := Nat.lt_of_lt_of_le (by omega : 0 < 1) (rt_le (by omega))
theorem rt_le_self (m : Nat) : rt m ≤ m := by
  obtain ⟨h, _⟩ := rt_spec m
  rcases Nat.eq_zero_or_pos (rt m) with h0 | h0
  · omega
  · have := Nat.mul_le_mul_right (rt m) (show 1 ≤ rt m by omega); omega
/-- A step from above stays above. -/
theorem rt_step {m x : Nat} (hx : rt m ≤ x) (hx0 : 0 < x) : rt m ≤ (x + m / x) / 2 := by
  obtain ⟨h1, _⟩ := rt_spec m
  generalize rt m = r at *
  obtain ⟨e, rfl⟩ := Nat.exists_eq_add_of_le hx
  rw [Nat.le_div_iff_mul_le (by omega)]
  by_cases he : r ≤ e
  · generalize m / (r + e) = z; omega
  · obtain ⟨f, rfl⟩ := Nat.exists_eq_add_of_le (show e ≤ r by omega)
    have : f ≤ m / (e + f + e) := by
      rw [Nat.le_div_iff_mul_le hx0]
      refine Nat.le_trans ?_ h1
      rw [Nat.add_mul e f, Nat.mul_add f, Nat.mul_add f, Nat.mul_add e, Nat.mul_comm f e]
      omega
    generalize m / (e + f + e) = z at *
    omega
theorem rt_last {m x : Nat} (hx : rt m ≤ x) (hx0 : 0 < x) (h : x ≤ (x + m / x) / 2) : x = rt m := by
  refine Nat.le_antisymm (rt_le ?_) hx
  rw [Nat.le_div_iff_mul_le (by omega)] at h
  exact (Nat.le_div_iff_mul_le hx0).1 (by omega)
theorem dc_ten {n : Nat} (h : n ≠ 0) : dc (10 * n) = dc n ++ [48] := by
  have e : decs (10 * n) = decs n ++ [48] := by
    have h2 : 10 * n ≠ 0 := by omega
    unfold decs
    rw [if_neg h, if_neg h2, lod_succ h2, show 10 * n / 10 = n by omega, show 10 * n % 10 = 0 by omega]
    simp
  unfold dc
  rw [e]
  simp [ofNums]
end Go.XW.DR
/- The root, digit by digit. -/
namespace Go.XW.DI
theorem lval_set0 {l : List Int} {j : Nat} (hj : j < l.length) (h0 : l.getD j 0 = 0) (u : Int) : lval (l.set j u) = lval l + 10 ^ j * u := by
  rw [lval_set hj, h0, Int.sub_zero]
/-- The places from j on are settled. -/
structure RtI (m : Nat) (L j : Nat) (ds : List Int) : Prop where
  len : ds.length = L
  le : j ≤ L
  dg : Dg ds
  low : ∀ p, p < j → ds.getD p 0 = 0
  ge : lval ds * lval ds ≤ m
  lt : (m : Int) < (lval ds + 10 ^ j) * (lval ds + 10 ^ j)
theorem RtI.zero {m L : Nat} (h : (lod m).length ≤ 2 * L) : RtI m L L (List.replicate L 0) := by
  refine ⟨by simp, by omega, dg_zeros _, fun p hp => by simp [List.getD, hp], ?_, ?_⟩
  · rw [lval_zeros]; omega
  · rw [lval_zeros, Int.zero_add, ← Int.pow_add]
    have h1 := lval_lt (lod_dg m)
    rw [lod_val] at h1
    have h2 := p10_le (j := (lod m).length) (k := L + L) (by omega)
    omega
/-- The square with d at the place below is above m. -/
def RtD (m j : Nat) (ds : List Int) (d : Nat) : Prop := d ≤ 9 ∧ (m : Int) < (lval ds + 10 ^ (j - 1) * (d + 1)) * (lval ds + 10 ^ (j - 1) * (d + 1))
theorem RtI.nine {m L j : Nat} {ds : List Int} (h : RtI m L j ds) (hj : 0 < j) : RtD m j ds 9 := by
  refine ⟨by omega, ?_⟩
  have e : (10 : Int) ^ (j - 1) * ((9 : Nat) + 1) = 10 ^ j := by
    conv => rhs; rw [show j = (j - 1) + 1 by omega, Int.pow_succ]
    rfl
  rw [e]; exact h.lt
theorem RtI.set {m L j d : Nat} {ds : List Int} (h : RtI m L j ds) (hj : 0 < j) (hd : RtD m j ds d) (hs : lval (ds.set (j - 1) d) * lval (ds.set (j - 1) d) ≤ m) : RtI m L (j - 1) (ds.set (j - 1) d) := by
  have hle := h.le
  have hlen := h.len
  have e := lval_set0 (l := ds) (j := j - 1) (by omega) (h.low _ (by omega)) d
  refine ⟨by simp [hlen], by omega, h.dg.set _ (by have := hd.1; omega), fun p hp => ?_, hs, ?_⟩
  · simp only [List.getD, List.getElem?_set]
    rw [if_neg (by omega)]
    exact h.low p (by omega)
  · have := hd.2
    rw [e, Int.add_assoc, show (10 : Int) ^ (j - 1) * (d : Int) + 10 ^ (j - 1) = 10 ^ (j - 1) * (d + 1) by rw [Int.mul_add, Int.mul_one]]
    exact this
theorem RtD.less {m j d : Nat} {ds : List Int} (h : RtD m j ds d) (hd : 0 < d) (hs : (m : Int) < (lval ds + 10 ^ (j - 1) * (d : Int)) * (lval ds + 10 ^ (j - 1) * (d : Int))) : RtD m j ds (d - 1) :=
  ⟨by have := h.1; omega, by rw [show ((d - 1 : Nat) : Int) + 1 = d by omega]; exact hs⟩
theorem RtI.none {m L j : Nat} {ds : List Int} (h : RtI m L j ds) (hj : 0 < j) (hd : RtD m j ds 0) : RtI m L (j - 1) ds :=
  ⟨h.len, by have := h.le; omega, h.dg, fun p hp => h.low p (by omega), h.ge, by have := hd.2; rwa [show ((0 : Nat) : Int) + 1 = 1 by omega, Int.mul_one] at this⟩
theorem RtI.done {m L : Nat} {ds : List Int} (h : RtI m L 0 ds) : lval ds = (Go.XW.DR.rt m : Nat) := by
  obtain ⟨R, hR⟩ := Int.eq_ofNat_of_zero_le (lval_nonneg h.dg)
  have h1 := h.ge
  have h2 := h.lt
  rw [hR] at h1 h2 ⊢
  rw [show (10 : Int) ^ 0 = 1 from rfl, ← Int.natCast_one, ← Int.natCast_add, ← Int.natCast_mul] at h2
  rw [← Int.natCast_mul] at h1
  rw [Go.XW.DR.rt_unique (m := m) (r := R) (by omega) (by omega)]
theorem RtI.small {m L j d : Nat} {ds : List Int} (h : RtI m L j ds) (hj : 0 < j) : lval (ds.set (j - 1) d) = lval ds + 10 ^ (j - 1) * d :=
  lval_set0 (by have := h.le; have := h.len; omega) (h.low _ (by omega)) d
theorem RtI.back {m L j d : Nat} {ds : List Int} (h : RtI m L j ds) (hj : 0 < j) : (ds.set (j - 1) d).set (j - 1) 0 = ds := by
  rw [List.set_set]
  have h0 := h.low (j - 1) (by omega)
  have hl : j - 1 < ds.length := by have := h.le; have := h.len; omega
  rw [List.getD, List.getElem?_eq_getElem hl, Option.getD_some] at h0
  rw [← h0, List.set_getElem_self]
end Go.XW.DI
