/- A laid text without its blanks: plain laws, no program. -/
import Derived.Test.YtpiicncihccheaaDoorJ5
namespace Go.Proofs.YtpiicncihccheaaDoor
open Go.XW Go.XW.DU Go.Lib Go.XW.U
/-- A text without the line's ends and blanks outside its literals. -/
def bare : Bool → List UInt8 → List UInt8
  | _, [] => []
  | true, [c] => [c]
  | true, c :: e :: r => if c = 92 then c :: e :: bare true r else if c = 34 then c :: bare false (e :: r) else c :: bare true (e :: r)
  | false, c :: r => if c = 34 then c :: bare true r else if c = 10 ∨ c = 32 then bare false r else c :: bare false r
theorem bare_step {c : UInt8} (h1 : c ≠ 92) (h2 : c ≠ 34) (X : List UInt8) : bare true (c :: X) = c :: bare true X := by
  cases X with
  | nil => simp [bare]
  | cons e r => simp [bare, h1, h2]
theorem bare_34 (X : List UInt8) : bare true (34 :: X) = 34 :: bare false X := by
  cases X with
  | nil => simp [bare]
  | cons e r => simp [bare]
theorem bare_92 (e : UInt8) (X : List UInt8) : bare true (92 :: e :: X) = 92 :: e :: bare true X := by simp [bare]
theorem bare_keep {c : UInt8} (h1 : c ≠ 34) (h2 : c ≠ 10) (h3 : c ≠ 32) (X : List UInt8) : bare false (c :: X) = c :: bare false X := by simp [bare, h1, h2, h3]
theorem bare_list : ∀ (w X : List UInt8), (∀ c ∈ w, c ≠ 34 ∧ c ≠ 10 ∧ c ≠ 32) → bare false (w ++ X) = w ++ bare false X
  | [], X, _ => rfl
  | c :: w, X, h => by
    obtain ⟨h1, h2, h3⟩ := h c (by simp)
    rw [List.cons_append, bare_keep h1 h2 h3, bare_list w X fun d hd => h d (List.mem_cons_of_mem _ hd)]; rfl
theorem bare_blanks (X : List UInt8) : ∀ n : Nat, bare false (List.replicate n 32 ++ X) = bare false X
  | 0 => rfl
  | n + 1 => by rw [List.replicate_succ, List.cons_append]; simp [bare, bare_blanks X n]
theorem bare_line (d st : Int) (X : List UInt8) : bare false (lineL d st ++ X) = bare false X := by
  unfold lineL
  split
  · rfl
  · rw [List.cons_append]; simp [bare, bare_blanks]
theorem hexd_not : ∀ k : Fin 16, hexd k.val ≠ 92 ∧ hexd k.val ≠ 34 := by decide +kernel
theorem bare_qb (c : UInt8) (X : List UInt8) : bare true (qb c ++ X) = qb c ++ bare true X := by
  rcases qb_cases c with ⟨e, h1, _, _⟩ | h1 | ⟨h1, h2, h3⟩ <;> rw [h1]
  · exact bare_92 e X
  · have k := c.toNat_lt
    have a := hexd_not ⟨c.toNat / 16, by omega⟩
    have b := hexd_not ⟨c.toNat % 16, by omega⟩
    simp only [List.cons_append, List.nil_append]
    rw [bare_92, bare_step (by decide) (by decide), bare_step (by decide) (by decide), bare_step a.1 a.2, bare_step b.1 b.2]
  · exact bare_step h3 h2 X
theorem bare_flat : ∀ (t X : List UInt8), bare true (t.flatMap qb ++ X) = t.flatMap qb ++ bare true X
  | [], X => rfl
  | c :: t, X => by rw [List.flatMap_cons, List.append_assoc, bare_qb, bare_flat t X, List.append_assoc]
theorem bare_quote (t X : List UInt8) : bare false (quote t ++ X) = quote t ++ bare false X := by
  have e : ∀ Y, bare false (34 :: Y) = 34 :: bare true Y := fun Y => by simp [bare]
  simp only [quote, List.cons_append, List.nil_append, List.append_assoc]
  rw [e, bare_flat, bare_34]
theorem bare_num {n : List UInt8} (h : fm n = true) (X : List UInt8) : bare false (n ++ X) = n ++ bare false X :=
  bare_list n X fun c hc => by
    have := num_rng h c hc
    refine ⟨?_, ?_, ?_⟩ <;> (rintro rfl; simp at this)
theorem bare_write (st : Int) : ∀ (n : Nat) (v : JV) (d : Int) (X : List UInt8), v.bk < n → fmd v = true → bare false (write v d st ++ X) = write v 0 (-1) ++ bare false X := by
  intro n
  induction n with
  | zero => intro v d X h; omega
  | succ n ih =>
    intro v d X h hf
    have hb := bk_eq v
    have hG := fmd_get hf
    obtain ⟨n3, _, _, _, _⟩ := fmd_num hf
    have a0 := hG.k0; have a6 := hG.k6
    rw [write_eq, write_eq]
    by_cases h5 : v.kind < 5
    · rw [if_pos h5, if_pos h5]
      unfold wordL
      split
      · exact bare_list _ X (by decide)
      split
      · exact bare_list _ X (by decide)
      split
      · exact bare_list _ X (by decide)
      split
      · rename_i h3; exact bare_num (n3 h3) X
      · exact bare_quote _ X
    · rw [if_neg h5, if_neg h5]
      have hL : ∀ (l : List JV) (ks : List (List UInt8)) (fst : Bool) (Y : List UInt8), (∀ x ∈ l, fmd x = true) → bkL l < n → bare false (writeL v.kind l ks (d + 1) st fst ++ Y) = writeL v.kind l ks (0 + 1) (-1) fst ++ bare false Y := by
        intro l
        induction l with
        | nil => intro ks fst Y _ _; rfl
        | cons x r ihl =>
          intro ks fst Y hx hl2
          simp only [bkL] at hl2
          have hbx := bk_pos x
          rw [writeL, writeL, line_neg]
          simp only [List.append_assoc, List.nil_append]
          have e1 : ∀ Z, bare false ((if fst = true then ([] : List UInt8) else [44]) ++ Z) = (if fst = true then ([] : List UInt8) else [44]) ++ bare false Z := fun Z => by
            split
            · rfl
            · exact bare_list [44] Z (by decide)
          rw [e1, bare_line]
          have e2 : ∀ Z, bare false (keyL v.kind ks st ++ Z) = keyL v.kind ks (-1) ++ bare false Z := fun Z => by
            unfold keyL
            split
            · simp only [List.append_assoc]
              rw [bare_quote, bare_list [58] _ (by decide)]
              congr 2
              split <;> simp [bare]
            · rfl
          rw [e2, ih x (d + 1) _ (by omega) (hx x (by simp)), (write_plain_d x (0 + 1)).1, ihl ks.tail false Y (fun y hy => hx y (List.mem_cons_of_mem _ hy)) (by omega)]
      simp only [List.append_assoc]
      have e3 : ∀ Z, bare false ((if v.kind = 6 then ([123] : List UInt8) else [91]) ++ Z) = (if v.kind = 6 then ([123] : List UInt8) else [91]) ++ bare false Z := fun Z => by
        split <;> exact bare_list _ Z (by decide)
      have e4 : ∀ Z, bare false ((if v.kind = 6 then ([125] : List UInt8) else [93]) ++ Z) = (if v.kind = 6 then ([125] : List UInt8) else [93]) ++ bare false Z := fun Z => by
        split <;> exact bare_list _ Z (by decide)
      rw [e3, hL v.items v.keys true _ hG.item (by omega)]
      congr 2
      rw [line_neg]
      by_cases hi : v.items = []
      · rw [if_pos hi, if_pos hi, List.nil_append, List.nil_append, e4]
      · rw [if_neg hi, if_neg hi, List.nil_append, bare_line, e4]
/-- A laid text without its blanks is the plain one. -/
theorem bare_laid {v : JV} (hf : fmd v = true) (st : Int) : bare false (write v 0 st) = write v 0 (-1) := by
  have := bare_write st (v.bk + 1) v 0 [] (by omega) hf
  simpa [bare] using this
theorem bare_len : ∀ (b : Bool) (l : List UInt8), (bare b l).length ≤ l.length
  | b, [] => by cases b <;> simp [bare]
  | true, [c] => by simp [bare]
  | true, c :: e :: r => by
    have h1 := bare_len true r
    have h2 := bare_len false (e :: r)
    have h3 := bare_len true (e :: r)
    have e0 : bare true (c :: e :: r) = if c = 92 then c :: e :: bare true r else if c = 34 then c :: bare false (e :: r) else c :: bare true (e :: r) := by rw [bare]
    rw [e0]
    repeat' split
    all_goals simp only [List.length_cons] at *; omega
  | false, c :: r => by
    have h1 := bare_len true r
    have h2 := bare_len false r
    simp only [bare]
    repeat' split
    all_goals simp only [List.length_cons] at *; omega
end Go.Proofs.YtpiicncihccheaaDoor
