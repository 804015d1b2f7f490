/- A laid text without its blanks is the plain one; a plain one is UTF-8 without bytes below 32: plain laws, no program. -/
import Derived.Test.YtpiicncihccheaaDoorJ4
namespace Go.Proofs.YtpiicncihccheaaDoor
open Go.XW Go.XW.DU Go.Lib Go.XW.U
/-! ### Texts that are UTF-8, one behind the other -/
theorem decodeN_more {n n' b0 b1 b2 b3 c1 c2 c3 : Nat} (hn : (decodeN n b0 b1 b2 b3).2 ≤ n') (h1 : 1 < (decodeN n b0 b1 b2 b3).2 → c1 = b1) (h2 : 2 < (decodeN n b0 b1 b2 b3).2 → c2 = b2) (h3 : 3 < (decodeN n b0 b1 b2 b3).2 → c3 = b3) (hv : ¬ ((decodeN n b0 b1 b2 b3).1 = 65533 ∧ (decodeN n b0 b1 b2 b3).2 = 1)) : decodeN n' b0 c1 c2 c3 = decodeN n b0 b1 b2 b3 := by
  rcases decodeN_shape n b0 b1 b2 b3 with ⟨c, e⟩ | ⟨q1, q2, q3, qv, e⟩ | ⟨q1, q2, q3, q4, qv, qs, e⟩ | ⟨q1, q2, q3, q4, q5, qv, qw, e⟩ | e <;> rw [e] at hn h1 h2 h3 hv ⊢ <;> dsimp only at hn h1 h2 h3
  · unfold decodeN; rw [if_pos c]
  · rw [h1 (by omega)]; unfold decodeN; rw [if_neg (by omega), if_pos ⟨q1, by omega, q3⟩, if_pos qv]
  · rw [h1 (by omega), h2 (by omega)]; unfold decodeN; rw [if_neg (by omega), if_neg (by omega), if_pos ⟨q1, ⟨by omega, q3⟩, by omega, q4⟩, if_pos ⟨qv, by omega⟩]
  · rw [h1 (by omega), h2 (by omega), h3 (by omega)]; unfold decodeN; rw [if_neg (by omega), if_neg (by omega), if_neg (by omega), if_pos ⟨q1, ⟨by omega, q3⟩, ⟨by omega, q4⟩, by omega, q5⟩, if_pos ⟨qv, by omega⟩]
  · exact absurd ⟨rfl, rfl⟩ hv
theorem decode_same {a b : List UInt8} (hne : a ≠ []) (hv : ¬ ((decodeL a).1 = 65533 ∧ (decodeL a).2 = 1)) (hl : (decodeL a).2 ≤ b.length) (hg : ∀ i, i < (decodeL a).2 → b.getD i 0 = a.getD i 0) : decodeL b = decodeL a := by
  have hp := (dec a hne hv).pos
  rw [decodeL_N] at hv hl hg hp ⊢
  rw [decodeL_N]
  rw [hg 0 (by omega)]
  exact decodeN_more hl (fun h => by rw [hg 1 h]) (fun h => by rw [hg 2 h]) (fun h => by rw [hg 3 h]) hv
theorem decode_app (a b : List UInt8) (hne : a ≠ []) (hv : ¬ ((decodeL a).1 = 65533 ∧ (decodeL a).2 = 1)) : decodeL (a ++ b) = decodeL a := by
  have hle := (dec a hne hv).le
  exact decode_same hne hv (by rw [List.length_append]; omega) fun i hi => by
    have hi2 : i < a.length := by omega
    simp [List.getD, List.getElem?_append_left hi2]
theorem valid_take (a : List UInt8) (hne : a ≠ []) (hv : ¬ ((decodeL a).1 = 65533 ∧ (decodeL a).2 = 1)) : validD (a.take (decodeL a).2) = true := by
  have hp := (dec a hne hv).pos
  have hle := (dec a hne hv).le
  have hs : decodeL (a.take (decodeL a).2) = decodeL a := decode_same hne hv (by rw [List.length_take]; omega) fun i hi => by simp [List.getD, List.getElem?_take, hi]
  rw [validD_step _ (by intro he; have := congrArg List.length he; rw [List.length_take, List.length_nil] at this; omega), hs, if_neg hv, List.drop_eq_nil_of_le (by rw [List.length_take]; omega)]
  rfl
theorem validD_app : ∀ (n : Nat) (a b : List UInt8), a.length ≤ n → validD a = true → validD (a ++ b) = validD b
  | 0, a, b, h, _ => by rw [List.length_eq_zero_iff.1 (by omega : a.length = 0)]; rfl
  | n + 1, a, b, h, hv => by
    by_cases hne : a = []
    · subst hne; rfl
    · have hs := validD_step a hne
      rw [hv] at hs
      split at hs
      · cases hs
      · rename_i hd
        have hD := dec a hne hd
        have hp := hD.pos
        have hle := hD.le
        rw [validD_step (a ++ b) (by simp [hne]), decode_app a b hne hd, if_neg hd, List.drop_append_of_le_length hle]
        exact validD_app n _ b (by rw [List.length_drop]; omega) hs.symm
theorem valid_app {a b : List UInt8} (ha : validD a = true) (hb : validD b = true) : validD (a ++ b) = true := by rw [validD_app a.length a b (Nat.le_refl _) ha]; exact hb
theorem valid_asc {a : List UInt8} (h : ∀ c ∈ a, c.toNat < 128) : validD a = true := by
  have := validD_ascii a.length a (by rw [List.take_length]; exact h)
  rw [this, List.drop_length]; rfl
theorem qb_asc (c : UInt8) (hc : c.toNat < 128) : ∀ x ∈ qb c, x.toNat < 128 := by
  have key : ∀ c : Fin 128, ∀ x ∈ qb (UInt8.ofNat c.val), x.toNat < 128 := by decide +kernel
  have := key ⟨c.toNat, hc⟩
  dsimp only at this
  rwa [show UInt8.ofNat c.toNat = c by simp] at this
theorem flat_valid : ∀ (n : Nat) (t : List UInt8), t.length ≤ n → validD t = true → validD (t.flatMap qb) = true
  | 0, t, h, _ => by rw [List.length_eq_zero_iff.1 (by omega : t.length = 0)]; rfl
  | n + 1, t, h, hv => by
    by_cases hne : t = []
    · subst hne; rfl
    · obtain ⟨hD, hv2⟩ := valid_dec hne hv
      have hp := hD.pos
      have hle := hD.le
      have e : t.flatMap qb = (t.take (decodeL t).2).flatMap qb ++ (t.drop (decodeL t).2).flatMap qb := by rw [← List.flatMap_append, List.take_append_drop]
      rw [e]
      refine valid_app ?_ (flat_valid n _ (by rw [List.length_drop]; omega) hv2)
      by_cases hr : (decodeL t).1 < 128
      · obtain ⟨h1, h2⟩ := hD.one hr
        rw [h1, h2]
        refine valid_asc fun x hx => qb_asc (UInt8.ofNat (decodeL t).1) (by simp; omega) x (by simpa using hx)
      · rw [qb_id _ (hD.more (by omega))]
        refine valid_take t hne fun h => ?_
        have := validD_step t hne
        rw [if_pos h, hv] at this
        cases this
theorem quote_valid {t : List UInt8} (h : validD t = true) : validD (quote t) = true := by
  unfold quote
  exact valid_app (valid_app (by decide +kernel) (flat_valid t.length t (Nat.le_refl _) h)) (by decide +kernel)
/-! ### The plain text: its bytes -/
theorem write_plain_d (v : JV) (d : Int) : write v d (-1) = write v 0 (-1) ∧ True := ⟨by
  have key : ∀ (n : Nat) (v : JV) (d e : Int), v.bk < n → write v d (-1) = write v e (-1) := by
    intro n
    induction n with
    | zero => intro v d e h; omega
    | succ n ih =>
      intro v d e h
      have hb := bk_eq v
      rw [write_eq, write_eq]
      have hl : ∀ d : Int, lineL d (-1) = [] := fun d => rfl
      have hL : ∀ (l : List JV) (ks : List (List UInt8)) (fst : Bool), bkL l < n → writeL v.kind l ks (d + 1) (-1) fst = writeL v.kind l ks (e + 1) (-1) fst := by
        intro l
        induction l with
        | nil => intro ks fst _; rfl
        | cons x r ihl =>
          intro ks fst hl2
          simp only [bkL] at hl2
          rw [writeL, writeL, ihl ks.tail false (by omega), ih x (d + 1) (e + 1) (by omega), hl, hl]
      rw [hL v.items v.keys true (by omega), hl, hl]
  exact key (v.bk + 1) v d 0 (by omega), trivial⟩
theorem line_neg (d : Int) : lineL d (-1) = [] := rfl
/-- Bytes that are no mark. -/
def Cl (c : UInt8) : Prop := 32 ≤ c.toNat
theorem qb_cl (c : UInt8) : ∀ x ∈ qb c, Cl x := by
  have key : ∀ c : Fin 256, ∀ x ∈ qb (UInt8.ofNat c.val), 32 ≤ x.toNat := by decide +kernel
  have := key ⟨c.toNat, c.toNat_lt⟩
  dsimp only at this
  rwa [show UInt8.ofNat c.toNat = c by simp] at this
theorem quote_cl (t : List UInt8) : ∀ x ∈ quote t, Cl x := by
  intro x hx
  simp only [quote, List.mem_append, List.mem_cons, List.not_mem_nil, or_false, List.mem_flatMap] at hx
  rcases hx with (rfl | ⟨c, _, h⟩) | rfl
  · show 32 ≤ _; decide
  · exact qb_cl c x h
  · show 32 ≤ _; decide
theorem num_bytes {n : List UInt8} (h : fm n = true) : ∀ x ∈ n, x = 45 ∨ digB x = true := by
  obtain ⟨_, h1, _⟩ := fm_parts h
  intro x hx
  unfold body at h1
  split at h1
  · cases n with
    | nil => cases hx
    | cons c n =>
      rename_i h2
      rcases List.mem_cons.1 hx with rfl | hx
      · exact .inl (by simpa using h2)
      · exact .inr (List.all_eq_true.1 (by simpa [digs] using h1) x hx)
  · exact .inr (List.all_eq_true.1 h1 x hx)
theorem dig_rng {x : UInt8} (h : digB x = true) : 48 ≤ x.toNat ∧ x.toNat ≤ 57 := by
  simp only [digB, Bool.and_eq_true, decide_eq_true_eq] at h
  omega
theorem num_rng {n : List UInt8} (h : fm n = true) : ∀ x ∈ n, 45 ≤ x.toNat ∧ x.toNat ≤ 57 := fun x hx => by
  rcases num_bytes h x hx with rfl | h
  · decide
  · have := dig_rng h; omega
/-- Of a text's pieces what holds of each. -/
theorem write_all (p : List UInt8 → Prop) (papp : ∀ a b, p a → p b → p (a ++ b)) (pnil : p []) (pq : ∀ t, validD t = true → p (quote t)) (pn : ∀ n, fm n = true → p n) (pw : ∀ w ∈ ([[110, 117, 108, 108], [102, 97, 108, 115, 101], [116, 114, 117, 101], [44], [58], [91], [93], [123], [125]] : List (List UInt8)), p w) :
    ∀ (n : Nat) (v : JV) (d : Int), v.bk < n → fmd v = true → p (write v d (-1)) := by
  intro n
  induction n with
  | zero => intro v d h; omega
  | succ n ih =>
    intro v d h hf
    have hb := bk_eq v
    have hG := fmd_get hf
    obtain ⟨n3, _, _, _, _⟩ := fmd_num hf
    have a0 := hG.k0; have a6 := hG.k6
    rw [write_eq]
    split
    · unfold wordL
      split
      · exact pw _ (by simp)
      split
      · exact pw _ (by simp)
      split
      · exact pw _ (by simp)
      split
      · rename_i h3; exact pn _ (n3 h3)
      · exact pq _ (hG.txt (by omega))
    · have hL : ∀ (l : List JV) (i : Nat) (fst : Bool), (∀ x ∈ l, fmd x = true) → bkL l < n → (v.kind = 6 → i + l.length ≤ v.keys.length) → p (writeL v.kind l (v.keys.drop i) (d + 1) (-1) fst) := by
        intro l
        induction l with
        | nil => intro i fst _ _ _; exact pnil
        | cons x r ihl =>
          intro i fst hx hl2 hk
          simp only [bkL] at hl2
          rw [writeL, List.tail_drop]
          refine papp _ _ (papp _ _ ?_ (papp _ _ pnil (papp _ _ ?_ (ih x _ (by omega) (hx x (by simp)))))) (ihl (i + 1) false (fun y hy => hx y (List.mem_cons_of_mem _ hy)) (by omega) (fun e => by have := hk e; simp at this; omega))
          · split
            · exact pnil
            · exact pw _ (by simp)
          · unfold keyL
            split
            · rename_i h6
              rw [headD_drop]
              refine papp _ _ (pq _ (hG.key h6 i (by have := hk h6; simp at this; omega))) (papp _ _ (pw _ (by simp)) pnil)
            · exact pnil
      have h1 := hL v.items 0 true hG.item (by omega) (fun e => by rw [hG.keys e]; omega)
      rw [List.drop_zero] at h1
      refine papp _ _ (papp _ _ ?_ h1) (papp _ _ ?_ ?_)
      · split <;> exact pw _ (by simp)
      · split
        · exact pnil
        · exact pnil
      · split <;> exact pw _ (by simp)
theorem write_cl {v : JV} (hf : fmd v = true) (d : Int) : ∀ x ∈ write v d (-1), Cl x :=
  write_all (fun l => ∀ x ∈ l, Cl x) (fun a b ha hb x hx => (List.mem_append.1 hx).elim (ha x) (hb x)) (fun x hx => by cases hx) (fun t _ => quote_cl t) (fun n hn x hx => by have := num_rng hn x hx; show 32 ≤ _; omega) (by unfold Cl; decide) (v.bk + 1) v d (by omega) hf
theorem write_valid {v : JV} (hf : fmd v = true) (d : Int) : validD (write v d (-1)) = true :=
  write_all (fun l => validD l = true) (fun a b ha hb => valid_app ha hb) rfl (fun t ht => quote_valid ht) (fun n hn => valid_asc fun x hx => by have := num_rng hn x hx; omega) (by decide +kernel) (v.bk + 1) v d (by omega) hf
end Go.Proofs.YtpiicncihccheaaDoor
