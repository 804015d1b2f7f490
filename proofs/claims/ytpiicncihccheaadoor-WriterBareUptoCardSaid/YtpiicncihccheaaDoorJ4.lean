/- One text for one value: values that are well shaped are told apart by their texts. -/
import Derived.Test.YtpiicncihccheaaDoorJ3
namespace Go.Proofs.YtpiicncihccheaaDoor
open Go.XW Go.XW.DU Go.Lib Go.XW.U
theorem fb_not {v : JV} (hf : fmd v = true) : fb v.kind v.num ≠ 93 ∧ fb v.kind v.num ≠ 125 ∧ fb v.kind v.num ≠ 10 ∧ fb v.kind v.num ≠ 32 ∧ fb v.kind v.num ≠ 44 := by
  have hG := fmd_get hf
  have a0 := hG.k0; have a6 := hG.k6
  have na := fmd_num hf
  have key : ∀ (c : UInt8), (c = 45 ∨ digB c = true) → c ≠ 93 ∧ c ≠ 125 ∧ c ≠ 10 ∧ c ≠ 32 ∧ c ≠ 44 := fun c hc => by
    rcases hc with rfl | hc
    · decide
    · refine ⟨?_, ?_, ?_, ?_, ?_⟩ <;> (rintro rfl; exact absurd hc (by decide))
  have ca : v.kind = 0 ∨ v.kind = 1 ∨ v.kind = 2 ∨ v.kind = 3 ∨ v.kind = 4 ∨ v.kind = 5 ∨ v.kind = 6 := by omega
  rcases ca with e | e | e | e | e | e | e <;> rw [e] <;> first
    | (exact key _ (fb_num (na.1 e)))
    | (simp [fb]; done)
/-- What stands behind a list's items. -/
def endL (d st : Int) (c : UInt8) (r : List UInt8) : List UInt8 := lineL d st ++ (c :: r)
theorem endL_head (d st : Int) (c : UInt8) (r : List UInt8) : (endL d st c r).head? = some 10 ∨ (endL d st c r).head? = some c := by
  unfold endL lineL
  split
  · exact .inr rfl
  · exact .inl rfl
theorem endL_inj {d st : Int} {c : UInt8} {r s : List UInt8} (h : endL d st c r = endL d st c s) : r = s := by
  unfold endL at h
  have := List.append_cancel_left h
  simpa using this
theorem dl_rest (k : Int) (is : List JV) (ks : List (List UInt8)) (d' d st : Int) (c : UInt8) (r : List UInt8) (hc : c = 93 ∨ c = 125) : Dl (writeL k is ks d' st false ++ endL d st c r) := by
  cases is with
  | nil =>
    rw [writeL, List.nil_append]
    intro x hx
    rcases endL_head d st c r with h | h <;> rw [h] at hx <;> cases hx
    · decide
    · rcases hc with rfl | rfl <;> decide
  | cons x is =>
    rw [writeL]
    exact Dl.cons (by decide) (by decide)
def WiIH (st : Int) (n : Nat) : Prop := ∀ (a b : JV) (d : Int) (r s : List UInt8), a.bk < n → fmd a = true → fmd b = true → Dl r → Dl s → write a d st ++ r = write b d st ++ s → a = b ∧ r = s
theorem item_inj {st : Int} {n : Nat} (IH : WiIH st n) (k : Int) (x y : JV) (ks ls : List (List UInt8)) (d' : Int) (R S : List UInt8) (hx : x.bk < n) (fx : fmd x = true) (fy : fmd y = true) (hR : Dl R) (hS : Dl S)
    (h : lineL d' st ++ (keyL k ks st ++ write x d' st) ++ R = lineL d' st ++ (keyL k ls st ++ write y d' st) ++ S) : x = y ∧ R = S ∧ (k = 6 → ks.headD [] = ls.headD []) := by
  simp only [List.append_assoc] at h
  have h := List.append_cancel_left h
  by_cases hk : k = 6
  · unfold keyL at h
    rw [if_pos hk, if_pos hk] at h
    simp only [List.append_assoc] at h
    obtain ⟨e, h⟩ := quote_inj h
    simp only [List.cons_append, List.nil_append, List.cons.injEq, true_and] at h
    have h := List.append_cancel_left h
    obtain ⟨e2, e3⟩ := IH x y d' R S hx fx fy hR hS h
    exact ⟨e2, e3, fun _ => e⟩
  · unfold keyL at h
    rw [if_neg hk, if_neg hk] at h
    simp only [List.nil_append] at h
    obtain ⟨e2, e3⟩ := IH x y d' R S hx fx fy hR hS h
    exact ⟨e2, e3, fun h => absurd h hk⟩
theorem keys_eq {ks ls : List (List UInt8)} (h1 : ks.headD [] = ls.headD []) (h2 : ks.tail = ls.tail) (hk : ks ≠ []) (hl : ls ≠ []) : ks = ls := by
  cases ks with
  | nil => exact absurd rfl hk
  | cons a ks => cases ls with
    | nil => exact absurd rfl hl
    | cons b ls => simp at h1 h2; rw [h1, h2]
theorem rest_inj {st : Int} {n : Nat} (IH : WiIH st n) (k : Int) (c : UInt8) (hc : c = 93 ∨ c = 125) (d' d : Int) : ∀ (is js : List JV) (ks ls : List (List UInt8)) (r s : List UInt8), bkL is < n → (∀ x ∈ is, fmd x = true) → (∀ x ∈ js, fmd x = true) → (k = 6 → ks.length = is.length) → (k = 6 → ls.length = js.length) →
    writeL k is ks d' st false ++ endL d st c r = writeL k js ls d' st false ++ endL d st c s → is = js ∧ r = s ∧ (k = 6 → ks = ls)
  | [], [], ks, ls, r, s, _, _, _, hk, hl, h => by
    simp only [writeL, List.nil_append] at h
    refine ⟨rfl, endL_inj h, fun h6 => ?_⟩
    rw [List.length_eq_zero_iff.1 (hk h6), List.length_eq_zero_iff.1 (hl h6)]
  | [], y :: js, ks, ls, r, s, _, _, _, _, _, h => by
    rw [writeL, writeL, List.nil_append] at h
    have h1 := congrArg List.head? h
    have e2 : (if false = true then ([] : List UInt8) else [44]) = [44] := rfl
    rw [e2] at h1
    simp only [List.cons_append, List.head?_cons] at h1
    rcases endL_head d st c r with h3 | h3 <;> rw [h3] at h1
    · exact absurd h1 (by decide)
    · rcases hc with rfl | rfl <;> exact absurd h1 (by decide)
  | x :: is, [], ks, ls, r, s, _, _, _, _, _, h => by
    rw [writeL, writeL, List.nil_append] at h
    have h1 := congrArg List.head? h
    have e2 : (if false = true then ([] : List UInt8) else [44]) = [44] := rfl
    rw [e2] at h1
    simp only [List.cons_append, List.head?_cons] at h1
    rcases endL_head d st c s with h3 | h3 <;> rw [h3] at h1
    · exact absurd h1 (by decide)
    · rcases hc with rfl | rfl <;> exact absurd h1 (by decide)
  | x :: is, y :: js, ks, ls, r, s, hb, hf, hg, hk, hl, h => by
    rw [writeL, writeL] at h
    have e2 : (if false = true then ([] : List UInt8) else [44]) = [44] := rfl
    rw [e2] at h
    simp only [List.cons_append, List.nil_append, List.cons.injEq, true_and, List.append_assoc] at h
    have hbx := bk_pos x
    simp only [bkL] at hb
    obtain ⟨rfl, h3, h4⟩ := item_inj IH k x y ks ls d' _ _ (by omega) (hf x (by simp)) (hg y (by simp)) (dl_rest k is ks.tail d' d st c r hc) (dl_rest k js ls.tail d' d st c s hc) (by simp only [List.append_assoc]; exact h)
    obtain ⟨rfl, rfl, h6⟩ := rest_inj IH k c hc d' d is js ks.tail ls.tail r s (by omega) (fun z hz => hf z (List.mem_cons_of_mem _ hz)) (fun z hz => hg z (List.mem_cons_of_mem _ hz)) (fun e => by have := hk e; rw [List.length_tail, this]; simp) (fun e => by have := hl e; rw [List.length_tail, this]; simp) h3
    refine ⟨rfl, rfl, fun e => keys_eq (h4 e) (h6 e) ?_ ?_⟩
    · intro he; have := hk e; rw [he] at this; simp at this
    · intro he; have := hl e; rw [he] at this; simp at this
theorem first_head (k : Int) (x : JV) (hf : fmd x = true) (ks : List (List UInt8)) (d' st : Int) (R : List UInt8) (hR : True) : ∃ e t, lineL d' st ++ (keyL k ks st ++ write x d' st) ++ R = e :: t ∧ e ≠ 93 ∧ e ≠ 125 := by
  unfold lineL
  split
  · unfold keyL
    split
    · exact ⟨34, _, rfl, by decide, by decide⟩
    · obtain ⟨t, ht⟩ := write_fb x hf d' st
      have := fb_not hf
      rw [ht]
      exact ⟨_, _, rfl, this.1, this.2.1⟩
  · exact ⟨10, _, rfl, by decide, by decide⟩
theorem all_inj {st : Int} {n : Nat} (IH : WiIH st n) (k : Int) (c : UInt8) (hc : c = 93 ∨ c = 125) (d' d : Int) (is js : List JV) (ks ls : List (List UInt8)) (r s : List UInt8) (hb : bkL is < n) (hf : ∀ x ∈ is, fmd x = true) (hg : ∀ x ∈ js, fmd x = true) (hk : k = 6 → ks.length = is.length) (hl : k = 6 → ls.length = js.length)
    (h : writeL k is ks d' st true ++ ((if is = [] then [] else lineL d st) ++ (c :: r)) = writeL k js ls d' st true ++ ((if js = [] then [] else lineL d st) ++ (c :: s))) : is = js ∧ r = s ∧ (k = 6 → ks = ls) := by
  cases is with
  | nil => cases js with
    | nil =>
      simp [writeL] at h
      refine ⟨rfl, h, fun h6 => ?_⟩
      rw [List.length_eq_zero_iff.1 (hk h6), List.length_eq_zero_iff.1 (hl h6)]
    | cons y js =>
      simp only [writeL, List.nil_append, if_true, if_false, List.append_assoc, reduceCtorEq] at h
      obtain ⟨e, t, h1, h2, h3⟩ := first_head k y (hg y (by simp)) ls d' st (writeL k js ls.tail d' st false ++ (lineL d st ++ c :: s)) trivial
      simp only [List.append_assoc] at h1
      rw [h1] at h
      simp only [List.cons.injEq] at h
      rcases hc with rfl | rfl
      · exact absurd h.1.symm h2
      · exact absurd h.1.symm h3
  | cons x is => cases js with
    | nil =>
      simp only [writeL, List.nil_append, if_true, if_false, List.append_assoc, reduceCtorEq] at h
      obtain ⟨e, t, h1, h2, h3⟩ := first_head k x (hf x (by simp)) ks d' st (writeL k is ks.tail d' st false ++ (lineL d st ++ c :: r)) trivial
      simp only [List.append_assoc] at h1
      rw [h1] at h
      simp only [List.cons.injEq] at h
      rcases hc with rfl | rfl
      · exact absurd h.1 h2
      · exact absurd h.1 h3
    | cons y js =>
      simp only [writeL, List.nil_append, if_true, if_false, List.append_assoc, reduceCtorEq] at h
      have hbx := bk_pos x
      simp only [bkL] at hb
      obtain ⟨rfl, h3, h4⟩ := item_inj IH k x y ks ls d' (writeL k is ks.tail d' st false ++ endL d st c r) (writeL k js ls.tail d' st false ++ endL d st c s) (by omega) (hf x (by simp)) (hg y (by simp)) (dl_rest k is ks.tail d' d st c r hc) (dl_rest k js ls.tail d' d st c s hc) (by simp only [endL, List.append_assoc]; exact h)
      obtain ⟨rfl, rfl, h6⟩ := rest_inj IH k c hc d' d is js ks.tail ls.tail r s (by omega) (fun z hz => hf z (List.mem_cons_of_mem _ hz)) (fun z hz => hg z (List.mem_cons_of_mem _ hz)) (fun e => by have := hk e; rw [List.length_tail, this]; simp) (fun e => by have := hl e; rw [List.length_tail, this]; simp) h3
      refine ⟨rfl, rfl, fun e => keys_eq (h4 e) (h6 e) ?_ ?_⟩
      · intro he; have := hk e; rw [he] at this; simp at this
      · intro he; have := hl e; rw [he] at this; simp at this
theorem jv_ext {a b : JV} (h1 : a.kind = b.kind) (h2 : a.num = b.num) (h3 : a.text = b.text) (h4 : a.items = b.items) (h5 : a.keys = b.keys) : a = b := by
  rw [a.eq_mk, b.eq_mk, h1, h2, h3, h4, h5]
theorem wi_step {st : Int} {n : Nat} (IH : WiIH st n) : WiIH st (n + 1) := by
  intro a b d r s hn ha hb hr hs h
  have hA := fmd_get ha; have hB := fmd_get hb
  have a0 := hA.k0; have a6 := hA.k6; have b0 := hB.k0; have b6 := hB.k6
  obtain ⟨na3, nan, nat, nai, nak⟩ := fmd_num ha
  obtain ⟨nb3, nbn, nbt, nbi, nbk⟩ := fmd_num hb
  have hk : a.kind = b.kind := by
    obtain ⟨t, ht⟩ := write_fb a ha d st
    obtain ⟨u, hu⟩ := write_fb b hb d st
    rw [ht, hu] at h
    simp only [List.cons_append, List.cons.injEq] at h
    exact fb_inj ha hb h.1
  rw [write_eq, write_eq, ← hk] at h
  have hbk := bk_eq a
  by_cases h5 : a.kind < 5
  · rw [if_pos h5, if_pos h5] at h
    have ei : a.items = b.items := by rw [nai h5, nbi (by omega)]
    have ek : a.keys = b.keys := by rw [nak (by omega), nbk (by omega)]
    unfold wordL at h
    by_cases h3 : a.kind = 3
    · rw [if_neg (by omega), if_neg (by omega), if_neg (by omega), if_pos h3, if_neg (by omega), if_neg (by omega), if_neg (by omega), if_pos h3] at h
      obtain ⟨e, h⟩ := num_inj (na3 h3) (nb3 (by omega)) hr hs h
      exact ⟨jv_ext hk e (by rw [nat (by omega), nbt (by omega)]) ei ek, h⟩
    · have en : a.num = b.num := by rw [nan h3, nbn (by omega)]
      by_cases h4 : a.kind = 4
      · rw [if_neg (by omega), if_neg (by omega), if_neg (by omega), if_neg h3, if_neg (by omega), if_neg (by omega), if_neg (by omega), if_neg h3] at h
        obtain ⟨e, h⟩ := quote_inj h
        exact ⟨jv_ext hk en e ei ek, h⟩
      · have et : a.text = b.text := by rw [nat h4, nbt (by omega)]
        refine ⟨jv_ext hk en et ei ek, ?_⟩
        rw [en, et] at h
        exact List.append_cancel_left h
  · rw [if_neg h5, if_neg h5] at h
    simp only [List.append_assoc] at h
    have h := List.append_cancel_left h
    have hcc : ∃ c : UInt8, (if a.kind = 6 then ([125] : List UInt8) else [93]) = [c] ∧ (c = 93 ∨ c = 125) := by
      split
      · exact ⟨125, rfl, .inr rfl⟩
      · exact ⟨93, rfl, .inl rfl⟩
    obtain ⟨c, e1, hc⟩ := hcc
    rw [e1] at h
    simp only [List.cons_append, List.nil_append] at h
    obtain ⟨ei, h, ek⟩ := all_inj IH a.kind c hc (d + 1) d a.items b.items a.keys b.keys r s (by omega) hA.item hB.item hA.keys (fun e => hB.keys (by omega)) h
    refine ⟨jv_ext hk (by rw [nan (by omega), nbn (by omega)]) (by rw [nat (by omega), nbt (by omega)]) ei ?_, h⟩
    by_cases h6 : a.kind = 6
    · exact ek h6
    · rw [nak h6, nbk (by omega)]
theorem wi : ∀ (st : Int) (n : Nat), WiIH st n
  | _, 0 => fun a b d r s hn => by omega
  | st, n + 1 => wi_step (wi st n)
/-- One text for one value. -/
theorem write_inj {a b : JV} {d st : Int} (ha : fmd a = true) (hb : fmd b = true) : write a d st = write b d st ↔ a = b := by
  constructor
  · intro h
    exact (wi st (a.bk + 1) a b d [] [] (by omega) ha hb .nil .nil (by rw [h])).1
  · rintro rfl; rfl
end Go.Proofs.YtpiicncihccheaaDoor
