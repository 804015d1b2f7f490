/- The difference of digits: plain laws, no program. -/
import Derived.Test.YtpiicncihccheaaDoorM1
namespace Go.XW.DI

/-- What the difference's rounds keep: behind i - 1 of them. -/
structure MinusI (a b : List Int) (i : Nat) (c : Int) (ns : List Int) : Prop where
  i1 : 1 ≤ i
  i2 : i ≤ a.length + 1
  c1 : c = 0 ∨ c = 1
  len : ns.length = a.length
  dig : Dig ns
  top : ns.take (a.length + 1 - i) = a.take (a.length + 1 - i)
  val : dval (ns.drop (a.length + 1 - i)) + dval (b.drop (b.length - (i - 1))) = dval (a.drop (a.length + 1 - i)) + 10 ^ (i - 1) * c

theorem MinusI.at {a b ns : List Int} {i : Nat} {c : Int} (h : MinusI a b i c ns) (hi : i ≤ a.length) : ns.getD (a.length - i) 0 = a.getD (a.length - i) 0 := by
  have h1 := h.i1
  exact getD_of_take h.top (by omega)

theorem MinusI.step {a b ns : List Int} {i : Nat} {c : Int} (h : MinusI a b i c ns) (hi : i ≤ a.length) {x u c2 : Int} (hx : x = if i ≤ b.length then b.getD (b.length - i) 0 - 48 else 0)
    (hu : 48 ≤ u ∧ u ≤ 57) (hc : c2 = 0 ∨ c2 = 1) (he : u = a.getD (a.length - i) 0 + 10 * c2 - c - x) : MinusI a b (i + 1) c2 (ns.set (a.length - i) u) := by
  have h1 := h.i1
  have hl := h.len
  refine ⟨by omega, by omega, hc, by rw [List.length_set]; exact h.len, h.dig.set _ hu, ?_, ?_⟩
  · rw [show a.length + 1 - (i + 1) = a.length - i by omega, take_set_self]
    have := congrArg (List.take (a.length - i)) h.top
    rwa [List.take_take, List.take_take, Nat.min_eq_left (by omega)] at this
  · have e1 : a.drop (a.length + 1 - (i + 1)) = a.getD (a.length - i) 0 :: a.drop (a.length + 1 - i) := by
      rw [show a.length + 1 - (i + 1) = a.length - i by omega, drop_getD (by omega), show a.length - i + 1 = a.length + 1 - i by omega]
    have e2 : dval (b.drop (b.length - (i + 1 - 1))) = dval (b.drop (b.length - (i - 1))) + 10 ^ (i - 1) * x := by
      by_cases hib : i ≤ b.length
      · rw [if_pos hib] at hx
        rw [show b.length - (i + 1 - 1) = b.length - i by omega, drop_getD (by omega : b.length - i < b.length), show b.length - i + 1 = b.length - (i - 1) by omega, dval_cons, hx]
        congr 3; simp; omega
      · rw [if_neg hib] at hx
        rw [show b.length - (i + 1 - 1) = b.length - (i - 1) by omega, hx]; omega
    have e3 : (ns.set (a.length - i) u).drop (a.length + 1 - (i + 1)) = u :: ns.drop (a.length + 1 - i) := by
      rw [show a.length + 1 - (i + 1) = a.length - i by omega, drop_set_self (by omega), show a.length - i + 1 = a.length + 1 - i by omega]
    rw [e1, e2, e3, dval_cons, dval_cons]
    have l1 : (ns.drop (a.length + 1 - i)).length = i - 1 := by simp; omega
    have l2 : (a.drop (a.length + 1 - i)).length = i - 1 := by simp; omega
    rw [l1, l2, show i + 1 - 1 = (i - 1) + 1 by omega, p10_succ]
    have hv := h.val
    generalize (10 : Int) ^ (i - 1) = p at *
    generalize dval (ns.drop (a.length + 1 - i)) = A at *
    generalize dval (a.drop (a.length + 1 - i)) = B at *
    generalize dval (b.drop (b.length - (i - 1))) = C at *
    have h4 : 10 * p * c2 = p * (10 * c2) := by rw [← Int.mul_assoc, Int.mul_comm p 10]
    have h3 : p * (u - 48 + c + x) = p * ((a.getD (a.length - i) 0 - 48) + 10 * c2) := by congr 1; omega
    rw [Int.mul_add, Int.mul_add, Int.mul_add] at h3
    omega

theorem MinusI.zero (a b : List Int) (ha : Dig a) : MinusI a b 1 0 a :=
  ⟨by omega, by omega, .inl rfl, rfl, ha, rfl, by simp [dval_nil]⟩

theorem MinusI.done {a b ns : List Int} {i : Nat} {c : Int} (h : MinusI a b i c ns) (hi : ¬ i ≤ a.length) (hl : b.length ≤ a.length) (hb : Dig b) (hv : dval b ≤ dval a) : dval ns = dval a - dval b := by
  have h2 := h.i2
  have hie : i = a.length + 1 := by omega
  subst hie
  have hlen := h.len
  have hw := h.val
  rw [show a.length + 1 - (a.length + 1) = 0 by omega, show b.length - (a.length + 1 - 1) = 0 by omega, List.drop_zero, List.drop_zero, List.drop_zero, show a.length + 1 - 1 = a.length by omega] at hw
  have hd := dval_lt h.dig
  have hb0 := dval_nonneg hb
  rw [hlen] at hd
  rcases h.c1 with rfl | rfl <;> omega
theorem lod_len {m n : Nat} (h : m ≤ n) : (lod m).length ≤ (lod n).length := by
  induction n using Nat.strongRecOn generalizing m with
  | _ n ih =>
    by_cases h0 : m = 0
    · subst h0; rw [lod_zero]; simp
    · rw [lod_succ h0, lod_succ (by omega : n ≠ 0)]
      have := @ih (n / 10) (by omega) (m / 10) (by omega)
      simpa using this
theorem lval_split {ds : List Int} {i : Nat} (hi : i < ds.length) : lval ds = lval (ds.take i) + 10 ^ i * (ds.getD i 0 + 10 * lval (ds.drop (i + 1))) := by
  have h1 : ds = ds.take i ++ ds.drop i := (List.take_append_drop i ds).symm
  have h2 := lval_append (ds.take i) (ds.drop i)
  rw [← h1, drop_getD hi, List.length_take, show min i ds.length = i by omega] at h2
  exact h2
theorem lval_lt_of {a b : List Int} {i : Nat} (ha : Dg a) (hb : Dg b) (hia : i < a.length) (hib : i < b.length) (he : a.drop (i + 1) = b.drop (i + 1)) (hl : a.getD i 0 < b.getD i 0) : lval a < lval b := by
  rw [lval_split hia, lval_split hib, he]
  have h1 : lval (a.take i) < 10 ^ i := by
    have := lval_lt (l := a.take i) fun x hx => ha x (List.mem_of_mem_take hx)
    rwa [List.length_take, show min i a.length = i by omega] at this
  have h2 := lval_nonneg (l := b.take i) fun x hx => hb x (List.mem_of_mem_take hx)
  generalize lval (b.drop (i + 1)) = r at *
  generalize a.getD i 0 = x at *
  generalize b.getD i 0 = y at *
  have h3 : (10 : Int) ^ i * (x + 10 * r + 1) ≤ 10 ^ i * (y + 10 * r) := Int.mul_le_mul_of_nonneg_left (by omega) (by have := p10_pos i; omega)
  rw [Int.mul_add, Int.mul_one] at h3
  omega

end Go.XW.DI
