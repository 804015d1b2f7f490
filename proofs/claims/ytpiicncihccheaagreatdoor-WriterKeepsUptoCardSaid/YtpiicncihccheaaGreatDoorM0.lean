/- Whole numbers and their digits: plain laws, no program. -/
import Derived.Test.YtpiicncihccheaaGreatDoorXG
namespace Go.XW.DI
open Go.RowKit Go.XW

def Bytes (ns : List Int) : Prop := ∀ n ∈ ns, 0 ≤ n ∧ n ≤ 255
theorem Bytes.nil : Bytes [] := fun _ h => by cases h
theorem Bytes.cons {n : Int} {ns : List Int} (h1 : 0 ≤ n ∧ n ≤ 255) (h2 : Bytes ns) : Bytes (n :: ns) := fun m hm => by
  rcases List.mem_cons.1 hm with rfl | hm
  · exact h1
  · exact h2 m hm
theorem Bytes.drop {ns : List Int} (h : Bytes ns) (k : Nat) : Bytes (ns.drop k) := fun n hn => h n (List.mem_of_mem_drop hn)
theorem Bytes.take {ns : List Int} (h : Bytes ns) (k : Nat) : Bytes (ns.take k) := fun n hn => h n (List.mem_of_mem_take hn)
theorem Bytes.append {ns ms : List Int} (h : Bytes ns) (h2 : Bytes ms) : Bytes (ns ++ ms) := fun n hn => by
  rcases List.mem_append.1 hn with hn | hn
  · exact h n hn
  · exact h2 n hn
def lexLess : List Int → List Int → Bool
  | _, [] => false
  | [], _ :: _ => true
  | a :: x, b :: y => decide (a < b) || (decide (a = b) && lexLess x y)
def digs (ns : List Int) : Bool := ns.all fun n => decide (48 ≤ n) && decide (n ≤ 57)
/-- Without the sign. -/
def body (ns : List Int) : List Int := if ns.head? = some 45 then ns.drop 1 else ns
def fm (ns : List Int) : Bool := decide (ns = [48]) || (decide (body ns ≠ [] ∧ (body ns).head? ≠ some 48) && digs (body ns))
def sizeI (a b : List Int) : Int :=
  if a.length ≠ b.length then (if a.length < b.length then -1 else 1) else if lexLess a b then -1 else if lexLess b a then 1 else 0
def sgn (b : Bool) (ns : List Int) : List Int := if b = true ∧ ns ≠ [48] then 45 :: ns else ns
/-- Without the noughts ahead of the last digit. -/
def strip : List Int → List Int
  | 48 :: x :: xs => strip (x :: xs)
  | xs => xs

theorem strip_step (ns : List Int) (k : Nat) (h : k + 1 < ns.length) (h0 : ns.getD k 0 = 48) : strip (ns.drop k) = strip (ns.drop (k + 1)) := by
  rw [List.drop_eq_getElem_cons (by omega)]
  have h1 : ns[k] = 48 := by simpa [List.getD, show k < ns.length by omega] using h0
  rw [h1, List.drop_eq_getElem_cons (by omega)]
  rfl
theorem strip_ne (y : Int) (ys : List Int) (h : y ≠ 48 ∨ ys = []) : strip (y :: ys) = y :: ys := by
  unfold strip
  split
  · rename_i he; injection he with h1 h2; rcases h with h | h
    · exact absurd h1 h
    · rw [h] at h2; cases h2
  · rfl
theorem strip_end (ns : List Int) (k : Nat) (hk : k < ns.length) (h : ¬ (k + 1 < ns.length ∧ ns.getD k 0 = 48)) : strip (ns.drop k) = ns.drop k := by
  rw [List.drop_eq_getElem_cons hk]
  refine strip_ne _ _ ?_
  by_cases h1 : k + 1 < ns.length
  · exact .inl fun he => h ⟨h1, by simpa [List.getD, hk] using he⟩
  · exact .inr (List.drop_eq_nil_of_le (by omega))

theorem p10_pos (k : Nat) : (0 : Int) < 10 ^ k := Int.pow_pos (by omega)
theorem p10_succ (k : Nat) : (10 : Int) ^ (k + 1) = 10 * 10 ^ k := by rw [Int.pow_succ]; omega
theorem p10_le {j k : Nat} (h : j ≤ k) : (10 : Int) ^ j ≤ 10 ^ k := by
  induction k with
  | zero => have : j = 0 := by omega
            subst this; exact Int.le_refl _
  | succ k ih =>
    by_cases hk : j = k + 1
    · subst hk; exact Int.le_refl _
    · have := ih (by omega); have := p10_pos k; rw [p10_succ]; omega

/-! ### Digits, the lowest first -/
def Dg (l : List Int) : Prop := ∀ d ∈ l, 0 ≤ d ∧ d ≤ 9
def lval : List Int → Int
  | [] => 0
  | d :: l => d + 10 * lval l
theorem Dg.tail {d : Int} {l : List Int} (h : Dg (d :: l)) : Dg l := fun x hx => h x (List.mem_cons_of_mem _ hx)
theorem Dg.head {d : Int} {l : List Int} (h : Dg (d :: l)) : 0 ≤ d ∧ d ≤ 9 := h d (by simp)
theorem Dg.append {a b : List Int} (h : Dg a) (h2 : Dg b) : Dg (a ++ b) := fun x hx => (List.mem_append.1 hx).elim (h x) (h2 x)
theorem lval_nonneg : ∀ {l : List Int}, Dg l → 0 ≤ lval l
  | [], _ => by simp [lval]
  | d :: l, h => by have := lval_nonneg h.tail; have := h.head; simp only [lval]; omega
theorem lval_lt : ∀ {l : List Int}, Dg l → lval l < 10 ^ l.length
  | [], _ => by simp [lval]
  | d :: l, h => by have := lval_lt h.tail; have := h.head; simp only [lval, List.length_cons, p10_succ]; omega
theorem lval_append : ∀ (a b : List Int), lval (a ++ b) = lval a + 10 ^ a.length * lval b
  | [], b => by simp [lval]
  | d :: a, b => by
    have := lval_append a b
    simp only [List.cons_append, lval, List.length_cons, p10_succ, this, Int.mul_add, Int.mul_assoc]; omega
def lod (n : Nat) : List Int := if h : n = 0 then [] else ((n % 10 : Nat) : Int) :: lod (n / 10)
theorem lod_zero : lod 0 = [] := by unfold lod; simp
theorem lod_succ {n : Nat} (h : n ≠ 0) : lod n = ((n % 10 : Nat) : Int) :: lod (n / 10) := by rw [lod, dif_neg h]
theorem lod_dg (n : Nat) : Dg (lod n) := by
  induction n using Nat.strongRecOn with
  | _ n ih =>
    by_cases h : n = 0
    · subst h; rw [lod_zero]; exact fun _ h => by cases h
    · rw [lod_succ h]
      intro d hd
      rcases List.mem_cons.1 hd with rfl | hd
      · omega
      · exact ih (n / 10) (by omega) d hd
theorem lod_val (n : Nat) : lval (lod n) = n := by
  induction n using Nat.strongRecOn with
  | _ n ih =>
    by_cases h : n = 0
    · subst h; rw [lod_zero]; rfl
    · rw [lod_succ h, lval, ih (n / 10) (by omega)]; omega
theorem lod_ne {n : Nat} (h : n ≠ 0) : lod n ≠ [] := by rw [lod_succ h]; simp
theorem lod_last {n : Nat} (h : n ≠ 0) : (lod n).getLast? ≠ some 0 := by
  induction n using Nat.strongRecOn with
  | _ n ih =>
    rw [lod_succ h]
    by_cases h2 : n / 10 = 0
    · rw [h2, lod_zero]; simp; omega
    · have := ih (n / 10) (by omega) h2
      rw [lod_succ h2] at *
      simpa [List.getLast?_cons_cons] using this
theorem lval_pos : ∀ {l : List Int}, Dg l → l ≠ [] → l.getLast? ≠ some 0 → 0 < lval l
  | [d], h, _, h2 => by
    have := h.head
    have : d ≠ 0 := by simpa using h2
    simp only [lval]; omega
  | d :: e :: l, h, _, h2 => by
    have := lval_pos (l := e :: l) h.tail (by simp) (by simpa [List.getLast?_cons_cons] using h2)
    have := h.head
    rw [lval]; omega
theorem lod_unique : ∀ {l : List Int}, Dg l → (l = [] ∨ l.getLast? ≠ some 0) → l = lod (lval l).toNat
  | [], _, _ => by rw [lval]; exact lod_zero.symm
  | [d], h, h2 => by
    have h3 := h.head
    have h4 : d ≠ 0 := by rcases h2 with h2 | h2
                          · cases h2
                          · simpa using h2
    have hv : lval [d] = d := by simp [lval]
    rw [hv, lod_succ (by omega), show d.toNat / 10 = 0 by omega, lod_zero]
    congr 1; omega
  | d :: e :: l, h, h2 => by
    have h3 : (e :: l).getLast? ≠ some 0 := by rcases h2 with h2 | h2
                                               · cases h2
                                               · simpa [List.getLast?_cons_cons] using h2
    have hp := lval_pos h.tail (by simp) h3
    have ih := lod_unique h.tail (.inr h3)
    have hd := h.head
    rw [lval, lod_succ (by omega), show (d + 10 * lval (e :: l)).toNat / 10 = (lval (e :: l)).toNat by omega, ← ih]
    congr 1; omega
theorem lval_inj {a b : List Int} (ha : Dg a) (hb : Dg b) (h1 : a = [] ∨ a.getLast? ≠ some 0) (h2 : b = [] ∨ b.getLast? ≠ some 0) (h : lval a = lval b) : a = b := by
  rw [lod_unique ha h1, lod_unique hb h2, h]

/-! ### Texts of digits, the highest first -/
def Dig (ns : List Int) : Prop := ∀ n ∈ ns, 48 ≤ n ∧ n ≤ 57
def dgs (ns : List Int) : List Int := (ns.map fun n => n - 48).reverse
def dval (ns : List Int) : Int := lval (dgs ns)
theorem Dig.bytes {ns : List Int} (h : Dig ns) : Bytes ns := fun n hn => by have := h n hn; omega
theorem Dig.tail {d : Int} {l : List Int} (h : Dig (d :: l)) : Dig l := fun x hx => h x (List.mem_cons_of_mem _ hx)
theorem Dig.head {d : Int} {l : List Int} (h : Dig (d :: l)) : 48 ≤ d ∧ d ≤ 57 := h d (by simp)
theorem Dig.cons {d : Int} {l : List Int} (h : 48 ≤ d ∧ d ≤ 57) (h2 : Dig l) : Dig (d :: l) := fun x hx => by
  rcases List.mem_cons.1 hx with rfl | hx
  · exact h
  · exact h2 x hx
theorem Dig.drop {l : List Int} (h : Dig l) (k : Nat) : Dig (l.drop k) := fun x hx => h x (List.mem_of_mem_drop hx)
theorem Dig.getD {l : List Int} (h : Dig l) {k : Nat} (hk : k < l.length) : 48 ≤ l.getD k 0 ∧ l.getD k 0 ≤ 57 := by
  simp only [List.getD, List.getElem?_eq_getElem hk, Option.getD_some]
  exact h _ (List.getElem_mem hk)
theorem Dig.dg {ns : List Int} (h : Dig ns) : Dg (dgs ns) := fun d hd => by
  simp only [dgs, List.mem_reverse, List.mem_map] at hd
  obtain ⟨n, hn, rfl⟩ := hd
  have := h n hn; omega
theorem dgs_length (ns : List Int) : (dgs ns).length = ns.length := by simp [dgs]
theorem dval_nil : dval [] = 0 := rfl
theorem dval_cons (d : Int) (ns : List Int) : dval (d :: ns) = dval ns + 10 ^ ns.length * (d - 48) := by
  have : dgs (d :: ns) = dgs ns ++ [d - 48] := by simp [dgs]
  rw [dval, this, lval_append, dgs_length]
  simp [lval, dval]
theorem dval_nonneg {ns : List Int} (h : Dig ns) : 0 ≤ dval ns := lval_nonneg h.dg
theorem dval_lt {ns : List Int} (h : Dig ns) : dval ns < 10 ^ ns.length := by have := lval_lt h.dg; rwa [dgs_length] at this

def decs (n : Nat) : List Int := if n = 0 then [48] else ((lod n).map fun d => d + 48).reverse
theorem decs_dig (n : Nat) : Dig (decs n) := by
  unfold decs; split
  · intro d hd; simp at hd; omega
  · intro d hd
    simp only [List.mem_reverse, List.mem_map] at hd
    obtain ⟨x, hx, rfl⟩ := hd
    have := lod_dg n x hx; omega
theorem decs_ne (n : Nat) : decs n ≠ [] := by
  unfold decs; split
  · simp
  · rename_i h; simp [lod_ne h]
theorem decs_val (n : Nat) : dval (decs n) = n := by
  unfold decs; split
  · rename_i h; subst h; rfl
  · rw [dval, dgs, ← List.map_reverse, List.reverse_reverse, List.map_map]
    have : ((fun n : Int => n - 48) ∘ fun d => d + 48) = id := by funext d; simp
    rw [this, List.map_id, lod_val]
theorem decs_canon {ns : List Int} (h : Dig ns) (hc : ns = [48] ∨ (ns ≠ [] ∧ ns.head? ≠ some 48)) : ns = decs (dval ns).toNat := by
  rcases hc with rfl | ⟨hne, hh⟩
  · rfl
  · have hlast : (dgs ns).getLast? ≠ some 0 := by
      simp only [dgs, List.getLast?_reverse, List.head?_map]
      cases ns with
      | nil => exact absurd rfl hne
      | cons a l =>
        simp only [List.head?_cons, Option.map_some, ne_eq, Option.some.injEq] at *
        omega
    have hu := lod_unique h.dg (.inr hlast)
    have hpos := lval_pos h.dg (by intro hc; have := congrArg List.length hc; rw [dgs_length] at this; exact hne (List.length_eq_zero_iff.1 this)) hlast
    have : (dval ns).toNat ≠ 0 := by unfold dval; omega
    rw [decs, if_neg this]
    have h2 : lod (dval ns).toNat = dgs ns := hu.symm
    rw [h2, dgs, List.map_reverse, List.reverse_reverse, List.map_map]
    have : ((fun d : Int => d + 48) ∘ fun n => n - 48) = id := by funext d; simp
    rw [this, List.map_id]
theorem decs_head (n : Nat) : n = 0 ∨ (decs n).head? ≠ some 48 := by
  by_cases h : n = 0
  · exact .inl h
  · right
    rw [decs, if_neg h, List.head?_reverse]
    have := lod_last h
    rw [List.getLast?_map]
    cases hl : (lod n).getLast? with
    | none => simp
    | some x => rw [hl] at this; simp at *; omega
theorem decs_inj {m n : Nat} (h : decs m = decs n) : m = n := by
  have := congrArg dval h; rw [decs_val, decs_val] at this; omega
theorem strip_val : ∀ {ns : List Int}, Dig ns → Dig (strip ns) ∧ dval (strip ns) = dval ns
  | [], h => ⟨h, rfl⟩
  | [a], h => by rw [strip_ne a [] (.inr rfl)]; exact ⟨h, rfl⟩
  | a :: b :: l, h => by
    by_cases ha : a = 48
    · subst ha
      obtain ⟨h1, h2⟩ := strip_val (ns := b :: l) h.tail
      refine ⟨h1, ?_⟩
      rw [show strip (48 :: b :: l) = strip (b :: l) from rfl, h2, dval_cons 48]; omega
    · rw [strip_ne a _ (.inl ha)]; exact ⟨h, rfl⟩
theorem strip_canon : ∀ {ns : List Int}, ns ≠ [] → strip ns = [48] ∨ (strip ns ≠ [] ∧ (strip ns).head? ≠ some 48)
  | [], h => absurd rfl h
  | [a], _ => by
    rw [strip_ne a [] (.inr rfl)]
    by_cases ha : a = 48
    · subst ha; exact .inl rfl
    · exact .inr ⟨by simp, by simpa using ha⟩
  | a :: b :: l, _ => by
    by_cases ha : a = 48
    · subst ha; exact strip_canon (ns := b :: l) (by simp)
    · rw [strip_ne a _ (.inl ha)]; exact .inr ⟨by simp, by simpa using ha⟩
theorem strip_eq {ns : List Int} (h : Dig ns) (hne : ns ≠ []) : strip ns = decs (dval ns).toNat := by
  obtain ⟨h1, h2⟩ := strip_val h
  rw [decs_canon h1 (strip_canon hne), h2]

/-! ### Signed texts -/
def enc (z : Int) : List Int := sgn (decide (z < 0)) (decs z.natAbs)
theorem decs48 (n : Nat) : decs n = [48] ↔ n = 0 := ⟨fun h => decs_inj h, fun h => by subst h; rfl⟩
theorem enc_neg {z : Int} (h : z < 0) : enc z = 45 :: decs z.natAbs := by
  rw [enc, sgn, if_pos ⟨by simp [h], fun hc => by rw [decs48] at hc; omega⟩]
theorem enc_nonneg {z : Int} (h : ¬ z < 0) : enc z = decs z.natAbs := by rw [enc, sgn, if_neg (by simp [h])]
theorem decs_head45 (n : Nat) : (decs n).head? ≠ some 45 := fun h => by
  have := decs_dig n 45 (List.mem_of_mem_head? h); omega
theorem enc_head (z : Int) : (enc z).head? = some 45 ↔ z < 0 := by
  by_cases h : z < 0
  · rw [enc_neg h]; simp [h]
  · rw [enc_nonneg h]; simp [h, decs_head45]
theorem enc_body (z : Int) : body (enc z) = decs z.natAbs := by
  unfold body
  by_cases h : z < 0
  · rw [if_pos ((enc_head z).2 h), enc_neg h]; rfl
  · rw [if_neg (fun hc => h ((enc_head z).1 hc)), enc_nonneg h]
theorem enc_ne (z : Int) : enc z ≠ [] := by
  by_cases h : z < 0
  · rw [enc_neg h]; simp
  · rw [enc_nonneg h]; exact decs_ne _
theorem enc_bytes (z : Int) : Bytes (enc z) := by
  by_cases h : z < 0
  · rw [enc_neg h]; exact Bytes.cons (by omega) (decs_dig _).bytes
  · rw [enc_nonneg h]; exact (decs_dig _).bytes
theorem enc_inj {y z : Int} (h : enc y = enc z) : y = z := by
  have h1 := enc_head y; rw [h, enc_head z] at h1
  have h2 := enc_body y; rw [h, enc_body z] at h2
  have := decs_inj h2
  by_cases hz : z < 0
  · have := h1.1 hz; omega
  · have : ¬ y < 0 := fun hc => hz (h1.2 hc); omega
theorem digs_iff (ns : List Int) : digs ns = true ↔ Dig ns := by
  simp [digs, Dig]
theorem fm_enc (z : Int) : fm (enc z) = true := by
  unfold fm
  rw [enc_body]
  by_cases h0 : z = 0
  · subst h0; rfl
  · rcases decs_head z.natAbs with h | h
    · omega
    · simp [decs_ne, h, (digs_iff _).2 (decs_dig _)]
/-- The number of a text. -/
def zval (ns : List Int) : Int := if ns.head? = some 45 then - dval (body ns) else dval (body ns)
theorem enc_of_fm {ns : List Int} (h : fm ns = true) : ns = enc (zval ns) := by
  unfold fm at h
  simp only [Bool.or_eq_true, decide_eq_true_eq, Bool.and_eq_true] at h
  rcases h with rfl | ⟨⟨h1, h2⟩, h3⟩
  · rfl
  · have hd := (digs_iff _).1 h3
    have hc := decs_canon hd (.inr ⟨h1, h2⟩)
    have hp : 0 < dval (body ns) := by
      have hn := dval_nonneg hd
      by_cases h0 : dval (body ns) = 0
      · exfalso
        rw [h0] at hc
        exact h2 (by rw [hc]; rfl)
      · omega
    unfold zval
    split
    · rename_i hh
      rw [enc_neg (by omega), show (-dval (body ns)).natAbs = (dval (body ns)).toNat by omega, ← hc]
      unfold body; rw [if_pos hh]
      cases ns with
      | nil => cases hh
      | cons a l => simp at hh; subst hh; rfl
    · rename_i hh
      rw [enc_nonneg (by omega), show (dval (body ns)).natAbs = (dval (body ns)).toNat by omega, ← hc]
      unfold body; rw [if_neg hh]
theorem sgn_enc (b : Bool) (n : Nat) : sgn b (decs n) = enc (if b then -(n : Int) else n) := by
  cases b with
  | false => rw [sgn, if_neg (by simp), if_neg (by simp), enc_nonneg (by omega)]; rfl
  | true =>
    by_cases h : n = 0
    · subst h; rfl
    · rw [sgn, if_pos ⟨rfl, fun hc => h ((decs48 n).1 hc)⟩, if_pos rfl, enc_neg (by omega)]
      congr 2; omega

/-! ### The order -/
theorem lexLess_val : ∀ {a b : List Int}, Dig a → Dig b → a.length = b.length → (lexLess a b = true ↔ dval a < dval b)
  | [], [], _, _, _ => by simp [lexLess, dval_nil]
  | [], _ :: _, _, _, h => by simp at h
  | _ :: _, [], _, _, h => by simp at h
  | x :: a, y :: b, ha, hb, hl => by
    have hl2 : a.length = b.length := by simpa using hl
    have ih := lexLess_val ha.tail hb.tail hl2
    have h1 := dval_lt ha.tail; have h2 := dval_lt hb.tail
    have h3 := dval_nonneg ha.tail; have h4 := dval_nonneg hb.tail
    simp only [lexLess, Bool.or_eq_true, decide_eq_true_eq, Bool.and_eq_true, ih, dval_cons, hl2]
    rw [hl2] at h1
    have hp := p10_pos b.length
    generalize (10 : Int) ^ b.length = p at *
    constructor
    · rintro (h | ⟨h, h5⟩)
      · have : p * (x - 48) + p ≤ p * (y - 48) := by
          have : p * ((x - 48) + 1) ≤ p * (y - 48) := Int.mul_le_mul_of_nonneg_left (by omega) (by omega)
          rw [Int.mul_add] at this; omega
        omega
      · subst h; omega
    · intro h
      by_cases hxy : x < y
      · exact .inl hxy
      · right
        have hge : y ≤ x := by omega
        by_cases he : x = y
        · subst he; exact ⟨rfl, by omega⟩
        · exfalso
          have : p * (y - 48) + p ≤ p * (x - 48) := by
            have : p * ((y - 48) + 1) ≤ p * (x - 48) := Int.mul_le_mul_of_nonneg_left (by omega) (by omega)
            rw [Int.mul_add] at this; omega
          omega
theorem decs_low {n : Nat} (h : n ≠ 0) : (10 : Int) ^ ((decs n).length - 1) ≤ n := by
  have hv := decs_val n
  rcases decs_head n with h0 | hh
  · exact absurd h0 h
  · cases hd : decs n with
    | nil => exact absurd hd (decs_ne n)
    | cons a l =>
      have hg := decs_dig n
      rw [hd] at hv hh hg
      rw [dval_cons] at hv
      have h1 := dval_nonneg hg.tail
      have h2 := hg.head
      have h3 : a ≠ 48 := by simpa using hh
      have hp := p10_pos l.length
      simp only [List.length_cons, Nat.add_sub_cancel]
      have : (10 : Int) ^ l.length * 1 ≤ 10 ^ l.length * (a - 48) := Int.mul_le_mul_of_nonneg_left (by omega) (by omega)
      omega
theorem decs_high (n : Nat) : (n : Int) < 10 ^ (decs n).length := by
  have := dval_lt (decs_dig n); rwa [decs_val] at this
theorem decs_len {m n : Nat} (h : (decs m).length < (decs n).length) : m < n := by
  have hn : n ≠ 0 := fun h0 => by
    subst h0
    have : (decs m).length ≠ 0 := fun hc => decs_ne m (List.length_eq_zero_iff.1 hc)
    have : (decs 0).length = 1 := rfl
    omega
  have h1 := decs_high m
  have h2 := decs_low hn
  have h3 : (10 : Int) ^ (decs m).length ≤ 10 ^ ((decs n).length - 1) := p10_le (by omega)
  omega
/-- -1, 0, 1. -/
def cmpI (a b : Int) : Int := if a < b then -1 else if b < a then 1 else 0
theorem sizeI_decs (m n : Nat) : sizeI (decs m) (decs n) = cmpI m n := by
  unfold sizeI cmpI
  by_cases hl : (decs m).length ≠ (decs n).length
  · rw [if_pos hl]
    by_cases h : (decs m).length < (decs n).length
    · have := decs_len h
      rw [if_pos h, if_pos (by omega)]
    · have := decs_len (m := n) (n := m) (by omega)
      rw [if_neg h, if_neg (by omega), if_pos (by omega)]
  · have hl2 : (decs m).length = (decs n).length := by omega
    rw [if_neg hl]
    have h1 := lexLess_val (decs_dig m) (decs_dig n) hl2
    have h2 := lexLess_val (decs_dig n) (decs_dig m) hl2.symm
    rw [decs_val, decs_val] at h1 h2
    by_cases a : (m : Int) < n
    · rw [if_pos (h1.2 a), if_pos a]
    · rw [if_neg (fun hc => a (h1.1 hc)), if_neg a]
      by_cases b : (n : Int) < m
      · rw [if_pos (h2.2 b), if_pos b]
      · rw [if_neg (fun hc => b (h2.1 hc)), if_neg b]
/-- More digits for more. -/
theorem decs_len_le {m n : Nat} (h : m ≤ n) : (decs m).length ≤ (decs n).length := by
  by_cases hc : (decs n).length < (decs m).length
  · have := decs_len hc; omega
  · omega
theorem decs_len_lt {n k : Nat} (h : (n : Int) < 10 ^ k) (hk : 0 < k) : (decs n).length ≤ k := by
  by_cases h0 : n = 0
  · subst h0; exact hk
  · have h1 := decs_low h0
    by_cases hc : (decs n).length ≤ k
    · exact hc
    · have := p10_le (j := k) (k := (decs n).length - 1) (by omega); omega

theorem getD_set_self {ns : List Int} {k : Nat} (h : k < ns.length) (u : Int) : (ns.set k u).getD k 0 = u := by simp [List.getD, h]
theorem getD_set_ne {ns : List Int} {j k : Nat} (h : j ≠ k) (u : Int) : (ns.set j u).getD k 0 = ns.getD k 0 := by simp [List.getD, h]
theorem drop_set_self {ns : List Int} {k : Nat} (h : k < ns.length) (u : Int) : (ns.set k u).drop k = u :: ns.drop (k + 1) := by
  rw [List.drop_eq_getElem_cons (by rw [List.length_set]; exact h), List.getElem_set_self]
  congr 1
  rw [List.drop_set, if_pos (by omega)]
theorem take_set_self {ns : List Int} (k : Nat) (u : Int) : (ns.set k u).take k = ns.take k := by
  rw [List.take_set, List.set_eq_of_length_le (by simp; omega)]
theorem drop_getD {ns : List Int} {k : Nat} (h : k < ns.length) : ns.drop k = ns.getD k 0 :: ns.drop (k + 1) := by
  rw [List.drop_eq_getElem_cons h]; simp [List.getD, h]
theorem take_getD {ns : List Int} {k : Nat} (h : k < ns.length) : ns.take (k + 1) = ns.take k ++ [ns.getD k 0] := by
  rw [List.take_add_one]; simp [List.getD, h]
theorem getD_of_take {ns ms : List Int} {j k : Nat} (h : ns.take k = ms.take k) (hj : j < k) : ns.getD j 0 = ms.getD j 0 := by
  have := congrArg (fun l => l[j]?) h
  simp only [List.getElem?_take, if_pos hj] at this
  simp [List.getD, this]

/-! ### The sum -/
/-- What the sum's rounds keep: behind i - 1 of them. -/
structure PlusI (a b : List Int) (i : Nat) (c : Int) (ns : List Int) : Prop where
  i1 : 1 ≤ i
  i2 : i ≤ a.length + 1
  c1 : c = 0 ∨ c = 1
  len : ns.length = 1 + a.length
  dig : Dig ns
  top : ns.take (a.length + 2 - i) = (48 :: a).take (a.length + 2 - i)
  val : dval (ns.drop (a.length + 2 - i)) + 10 ^ (i - 1) * c = dval (a.drop (a.length + 1 - i)) + dval (b.drop (b.length - (i - 1)))

theorem Dig.set {l : List Int} (h : Dig l) (k : Nat) {u : Int} (hu : 48 ≤ u ∧ u ≤ 57) : Dig (l.set k u) := fun x hx => by
  rcases List.mem_or_eq_of_mem_set hx with hx | rfl
  · exact h x hx
  · exact hu

theorem PlusI.step {a b ns : List Int} {i : Nat} {c : Int} (h : PlusI a b i c ns) (hi : i ≤ a.length) {x u c2 : Int} (hx : x = if i ≤ b.length then b.getD (b.length - i) 0 - 48 else 0)
    (hu : 48 ≤ u ∧ u ≤ 57) (hc : c2 = 0 ∨ c2 = 1) (he : u + 10 * c2 = ns.getD (a.length + 1 - i) 0 + c + x) : PlusI a b (i + 1) c2 (ns.set (a.length + 1 - i) u) := by
  have h1 := h.i1
  have hl := h.len
  refine ⟨by omega, by omega, hc, by rw [List.length_set]; exact h.len, h.dig.set _ hu, ?_, ?_⟩
  · rw [show a.length + 2 - (i + 1) = a.length + 1 - i by omega, take_set_self]
    have := congrArg (List.take (a.length + 1 - i)) h.top
    rwa [List.take_take, List.take_take, Nat.min_eq_left (by omega)] at this
  · have e0 : ns.getD (a.length + 1 - i) 0 = a.getD (a.length - i) 0 := by
      rw [getD_of_take h.top (by omega), show a.length + 1 - i = (a.length - i) + 1 by omega]; rfl
    have e1 : a.drop (a.length + 1 - (i + 1)) = a.getD (a.length - i) 0 :: a.drop (a.length + 1 - i) := by
      rw [show a.length + 1 - (i + 1) = a.length - i by omega, drop_getD (by omega), show a.length - i + 1 = a.length + 1 - i by omega]
    have e2 : dval (b.drop (b.length - (i + 1 - 1))) = dval (b.drop (b.length - (i - 1))) + 10 ^ (i - 1) * x := by
      by_cases hib : i ≤ b.length
      · rw [if_pos hib] at hx
        rw [show b.length - (i + 1 - 1) = b.length - i by omega, drop_getD (by omega : b.length - i < b.length), show b.length - i + 1 = b.length - (i - 1) by omega, dval_cons, hx]
        congr 3; simp; omega
      · rw [if_neg hib] at hx
        rw [show b.length - (i + 1 - 1) = b.length - (i - 1) by omega, hx]; omega
    have e3 : (ns.set (a.length + 1 - i) u).drop (a.length + 2 - (i + 1)) = u :: ns.drop (a.length + 2 - i) := by
      rw [show a.length + 2 - (i + 1) = a.length + 1 - i by omega, drop_set_self (by omega), show a.length + 1 - i + 1 = a.length + 2 - i by omega]
    rw [e1, e2, e3, dval_cons, dval_cons]
    have l1 : (ns.drop (a.length + 2 - i)).length = i - 1 := by simp; omega
    have l2 : (a.drop (a.length + 1 - i)).length = i - 1 := by simp; omega
    rw [l1, l2, show i + 1 - 1 = (i - 1) + 1 by omega, p10_succ]
    have hv := h.val
    generalize (10 : Int) ^ (i - 1) = p at *
    rw [e0] at he
    generalize dval (ns.drop (a.length + 2 - i)) = A at *
    generalize dval (a.drop (a.length + 1 - i)) = B at *
    generalize dval (b.drop (b.length - (i - 1))) = C at *
    have h4 : 10 * p * c2 = p * (10 * c2) := by rw [← Int.mul_assoc, Int.mul_comm p 10]
    have h3 : p * (u - 48 + 10 * c2) = p * ((a.getD (a.length - i) 0 - 48) + c + x) := by congr 1; omega
    rw [Int.mul_add, Int.mul_add, Int.mul_add] at h3
    omega

theorem PlusI.zero (a b : List Int) (ha : Dig a) : PlusI a b 1 0 (48 :: a) :=
  ⟨by omega, by omega, .inl rfl, by simp; omega, ha.cons (by omega), rfl, by simp [dval_nil]⟩

theorem PlusI.done {a b ns : List Int} {i : Nat} {c : Int} (h : PlusI a b i c ns) (hi : ¬ i ≤ a.length) (hl : b.length ≤ a.length) : ns.getD 0 0 = 48 ∧ Dig (ns.set 0 (48 + c)) ∧ dval (ns.set 0 (48 + c)) = dval a + dval b := by
  have h2 := h.i2
  have hie : i = a.length + 1 := by omega
  subst hie
  have hlen := h.len
  have ht := h.top
  rw [show a.length + 2 - (a.length + 1) = 1 by omega] at ht
  have h0 : ns.getD 0 0 = 48 := by rw [getD_of_take ht (by omega)]; rfl
  have hv := h.val
  rw [show a.length + 2 - (a.length + 1) = 1 by omega, show a.length + 1 - (a.length + 1) = 0 by omega, show b.length - (a.length + 1 - 1) = 0 by omega, List.drop_zero, List.drop_zero, show a.length + 1 - 1 = a.length by omega] at hv
  refine ⟨h0, h.dig.set _ (by rcases h.c1 with h | h <;> omega), ?_⟩
  have : ns.set 0 (48 + c) = (48 + c) :: ns.drop 1 := by
    have := drop_set_self (ns := ns) (k := 0) (by omega) (48 + c)
    simpa using this
  rw [this, dval_cons, show (ns.drop 1).length = a.length by simp; omega, show 48 + c - 48 = c by omega]
  omega


end Go.XW.DI
