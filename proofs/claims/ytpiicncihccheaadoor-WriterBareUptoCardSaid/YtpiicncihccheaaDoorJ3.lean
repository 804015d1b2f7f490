/- One text for one value: plain laws, no program. -/
import Derived.Test.YtpiicncihccheaaDoorJ2
namespace Go.Proofs.YtpiicncihccheaaDoor
open Go.XW Go.XW.DU Go.Lib Go.XW.U
/-- Behind a value no sign of a number stands. -/
def Dl (r : List UInt8) : Prop := ∀ c, r.head? = some c → digB c = false ∧ c ≠ 45
theorem Dl.nil : Dl [] := fun c h => by cases h
theorem Dl.cons {c : UInt8} {r : List UInt8} (h : digB c = false) (h2 : c ≠ 45) : Dl (c :: r) := fun x hx => by cases hx; exact ⟨h, h2⟩
/-! ### Literals -/
theorem hexd_inj : ∀ a b : Fin 16, hexd a.val = hexd b.val → a = b := by decide +kernel
theorem qb_esc : ∀ c d : Fin 256, ∀ r s : List UInt8, True := fun _ _ _ _ => trivial
/-- A byte's code: its first byte, and what stands behind. -/
theorem qb_cases (c : UInt8) : (∃ e, qb c = [92, e] ∧ e ≠ 117 ∧ (c = 34 ∧ e = 34 ∨ c = 92 ∧ e = 92 ∨ c = 8 ∧ e = 98 ∨ c = 12 ∧ e = 102 ∨ c = 10 ∧ e = 110 ∨ c = 13 ∧ e = 114 ∨ c = 9 ∧ e = 116)) ∨
    (qb c = [92, 117, 48, 48, hexd (c.toNat / 16), hexd (c.toNat % 16)]) ∨ (qb c = [c] ∧ c ≠ 34 ∧ c ≠ 92) := by
  unfold qb
  split
  · rename_i h
    rcases h with rfl | rfl
    · exact .inl ⟨34, rfl, by decide, by simp⟩
    · exact .inl ⟨92, rfl, by decide, by simp⟩
  rename_i h0
  split
  · rename_i h; subst h; exact .inl ⟨98, rfl, by decide, by simp⟩
  split
  · rename_i h; subst h; exact .inl ⟨102, rfl, by decide, by simp⟩
  split
  · rename_i h; subst h; exact .inl ⟨110, rfl, by decide, by simp⟩
  split
  · rename_i h; subst h; exact .inl ⟨114, rfl, by decide, by simp⟩
  split
  · rename_i h; subst h; exact .inl ⟨116, rfl, by decide, by simp⟩
  split
  · exact .inr (.inl rfl)
  · exact .inr (.inr ⟨rfl, fun h => h0 (.inl h), fun h => h0 (.inr h)⟩)
theorem qb_inj {c d : UInt8} {r s : List UInt8} (h : qb c ++ r = qb d ++ s) : c = d ∧ r = s := by
  have hx : ∀ c d : UInt8, hexd (c.toNat / 16) = hexd (d.toNat / 16) → hexd (c.toNat % 16) = hexd (d.toNat % 16) → c = d := fun c d h1 h2 => by
    have k1 := c.toNat_lt
    have k2 := d.toNat_lt
    have e1 := congrArg Fin.val (hexd_inj ⟨c.toNat / 16, by omega⟩ ⟨d.toNat / 16, by omega⟩ h1)
    have e2 := congrArg Fin.val (hexd_inj ⟨c.toNat % 16, by omega⟩ ⟨d.toNat % 16, by omega⟩ h2)
    dsimp only at e1 e2
    exact UInt8.toNat_inj.1 (by omega)
  rcases qb_cases c with ⟨e, h1, h2, h3⟩ | h1 | ⟨h1, h2, h3⟩ <;> rcases qb_cases d with ⟨e', h1', h2', h3'⟩ | h1' | ⟨h1', h2', h3'⟩ <;> rw [h1, h1'] at h <;> simp only [List.cons_append, List.nil_append, List.cons.injEq] at h
  · obtain ⟨_, rfl, rfl⟩ := h
    refine ⟨?_, rfl⟩
    rcases h3 with ⟨a, b⟩ | ⟨a, b⟩ | ⟨a, b⟩ | ⟨a, b⟩ | ⟨a, b⟩ | ⟨a, b⟩ | ⟨a, b⟩ <;> rcases h3' with ⟨a', b'⟩ | ⟨a', b'⟩ | ⟨a', b'⟩ | ⟨a', b'⟩ | ⟨a', b'⟩ | ⟨a', b'⟩ | ⟨a', b'⟩ <;> first | exact a.trans a'.symm | exact absurd (b.symm.trans b') (by decide)
  · exact absurd h.2.1 h2
  · exact absurd h.1.symm h3'
  · exact absurd h.2.1.symm h2'
  · obtain ⟨_, _, _, _, a, b, rfl⟩ := h
    exact ⟨hx c d a b, rfl⟩
  · exact absurd h.1.symm h3'
  · exact absurd h.1 h3
  · exact absurd h.1 h3
  · exact ⟨h.1, h.2⟩
theorem qb_not34 (c : UInt8) (r s : List UInt8) : qb c ++ r ≠ 34 :: s := by
  intro h
  rcases qb_cases c with ⟨e, h1, h2, h3⟩ | h1 | ⟨h1, h2, h3⟩ <;> rw [h1] at h <;> simp only [List.cons_append, List.nil_append, List.cons.injEq] at h
  · exact absurd h.1 (by decide)
  · exact absurd h.1 (by decide)
  · exact absurd h.1 h2
theorem flat_inj : ∀ {t u : List UInt8} {r s : List UInt8}, t.flatMap qb ++ (34 :: r) = u.flatMap qb ++ (34 :: s) → t = u ∧ r = s
  | [], [], r, s, h => ⟨rfl, by simpa using h⟩
  | [], d :: u, r, s, h => by
    simp only [List.flatMap_nil, List.nil_append, List.flatMap_cons, List.append_assoc] at h
    exact absurd h.symm (qb_not34 _ _ _)
  | c :: t, [], r, s, h => by
    simp only [List.flatMap_nil, List.nil_append, List.flatMap_cons, List.append_assoc] at h
    exact absurd h (qb_not34 _ _ _)
  | c :: t, d :: u, r, s, h => by
    simp only [List.flatMap_cons, List.append_assoc] at h
    obtain ⟨rfl, h2⟩ := qb_inj h
    obtain ⟨rfl, h3⟩ := flat_inj h2
    exact ⟨rfl, h3⟩
theorem quote_inj {t u r s : List UInt8} (h : quote t ++ r = quote u ++ s) : t = u ∧ r = s := by
  simp only [quote, List.cons_append, List.nil_append, List.append_assoc, List.cons.injEq, true_and] at h
  exact flat_inj h
/-! ### Numbers -/
theorem dig_inj : ∀ {m n r s : List UInt8}, digs m = true → digs n = true → Dl r → Dl s → m ++ r = n ++ s → m = n ∧ r = s
  | [], [], r, s, _, _, _, _, h => ⟨rfl, h⟩
  | [], d :: n, r, s, _, hn, hr, _, h => by
    have := (hr d (by rw [show r = d :: (n ++ s) from h]; rfl)).1
    simp only [digs, List.all_cons, Bool.and_eq_true] at hn
    rw [hn.1] at this; cases this
  | c :: m, [], r, s, hm, _, _, hs, h => by
    have := (hs c (by rw [show s = c :: (m ++ r) from h.symm]; rfl)).1
    simp only [digs, List.all_cons, Bool.and_eq_true] at hm
    rw [hm.1] at this; cases this
  | c :: m, d :: n, r, s, hm, hn, hr, hs, h => by
    simp only [digs, List.all_cons, Bool.and_eq_true] at hm hn
    simp only [List.cons_append, List.cons.injEq] at h
    obtain ⟨rfl, h2⟩ := h
    obtain ⟨rfl, h3⟩ := dig_inj hm.2 hn.2 hr hs h2
    exact ⟨rfl, h3⟩
theorem fm_parts {n : List UInt8} (h : fm n = true) : n ≠ [] ∧ digs (body n) = true ∧ (n.head? = some 45 ∨ n.head?.map digB = some true) := by
  unfold fm at h
  simp only [Bool.or_eq_true, decide_eq_true_eq, Bool.and_eq_true] at h
  rcases h with rfl | ⟨⟨h1, h2⟩, h3⟩
  · exact ⟨by decide, by decide, .inr (by decide)⟩
  · cases n with
    | nil => exact absurd rfl h1
    | cons c n =>
      refine ⟨by simp, h3, ?_⟩
      by_cases hc : c = 45
      · exact .inl (by rw [hc]; rfl)
      · right
        have : body (c :: n) = c :: n := by unfold body; rw [if_neg (by simpa using hc)]
        rw [this] at h3
        simp only [digs, List.all_cons, Bool.and_eq_true] at h3
        simp [h3.1]
theorem num_inj {m n r s : List UInt8} (hm : fm m = true) (hn : fm n = true) (hr : Dl r) (hs : Dl s) (h : m ++ r = n ++ s) : m = n ∧ r = s := by
  obtain ⟨m0, m1, m2⟩ := fm_parts hm
  obtain ⟨n0, n1, n2⟩ := fm_parts hn
  cases m with
  | nil => exact absurd rfl m0
  | cons c m => cases n with
    | nil => exact absurd rfl n0
    | cons d n =>
      simp only [List.cons_append, List.cons.injEq] at h
      obtain ⟨rfl, h⟩ := h
      by_cases hc : c = 45
      · subst hc
        have e : ∀ l : List UInt8, body (45 :: l) = l := fun l => rfl
        rw [e] at m1 n1
        obtain ⟨rfl, h3⟩ := dig_inj m1 n1 hr hs h
        exact ⟨rfl, h3⟩
      · have e : ∀ l : List UInt8, body (c :: l) = c :: l := fun l => by unfold body; rw [if_neg (by simpa using hc)]
        rw [e] at m1 n1
        simp only [digs, List.all_cons, Bool.and_eq_true] at m1 n1
        obtain ⟨rfl, h3⟩ := dig_inj m1.2 n1.2 hr hs h
        exact ⟨rfl, h3⟩
/-! ### What a text begins with -/
def fb (k : Int) (n : List UInt8) : UInt8 := if k = 0 then 110 else if k = 1 then 102 else if k = 2 then 116 else if k = 3 then n.headD 0 else if k = 4 then 34 else if k = 5 then 91 else 123
theorem write_fb (v : JV) (hf : fmd v = true) (d st : Int) : ∃ t, write v d st = fb v.kind v.num :: t := by
  have hG := fmd_get hf
  have h0 := hG.k0; have h6 := hG.k6
  rw [write_eq]
  by_cases h5 : v.kind < 5
  · rw [if_pos h5]
    unfold wordL fb
    split; exact ⟨_, rfl⟩
    split; exact ⟨_, rfl⟩
    split; exact ⟨_, rfl⟩
    split
    · rename_i h3
      have hn : fm v.num = true := by
        rw [fmd_eq] at hf
        simp only [Bool.and_eq_true] at hf
        have := hf.1.1.1.1.1.2
        rwa [if_pos h3] at this
      obtain ⟨n0, _, _⟩ := fm_parts hn
      cases hc : v.num with
      | nil => exact absurd hc n0
      | cons c n => exact ⟨n, rfl⟩
    · rw [if_pos (by omega)]; exact ⟨_, rfl⟩
  · rw [if_neg h5]
    rcases (by omega : v.kind = 5 ∨ v.kind = 6) with e | e <;> simp [e, fb]
theorem fb_num {n : List UInt8} (h : fm n = true) : n.headD 0 = 45 ∨ digB (n.headD 0) = true := by
  obtain ⟨n0, _, n2⟩ := fm_parts h
  cases n with
  | nil => exact absurd rfl n0
  | cons c n =>
    rcases n2 with h | h
    · exact .inl (by simpa using h)
    · exact .inr (by simpa using h)
theorem fmd_num {v : JV} (hf : fmd v = true) : (v.kind = 3 → fm v.num = true) ∧ (v.kind ≠ 3 → v.num = []) ∧ (v.kind ≠ 4 → v.text = []) ∧ (v.kind < 5 → v.items = []) ∧ (v.kind ≠ 6 → v.keys = []) := by
  rw [fmd_eq] at hf
  simp only [Bool.and_eq_true, Bool.or_eq_true, decide_eq_true_eq] at hf
  obtain ⟨⟨⟨⟨⟨⟨h1, h2⟩, h3⟩, h4⟩, h5⟩, h6⟩, h7⟩ := hf
  refine ⟨fun h => by rwa [if_pos h] at h2, fun h => by rw [if_neg h] at h2; simpa using h2, fun h => by rw [if_neg h] at h3; simpa using h3, fun h => ?_, fun h => ?_⟩
  · rcases h4 with h4 | h4
    · omega
    · exact List.length_eq_zero_iff.1 h4
  · rcases h5 with h5 | h5
    · exact absurd h5 h
    · exact List.length_eq_zero_iff.1 h5
/-- Values whose texts begin alike are of one kind. -/
theorem fb_inj {a b : JV} (ha : fmd a = true) (hb : fmd b = true) (h : fb a.kind a.num = fb b.kind b.num) : a.kind = b.kind := by
  have hA := fmd_get ha; have hB := fmd_get hb
  have a0 := hA.k0; have a6 := hA.k6; have b0 := hB.k0; have b6 := hB.k6
  have na := fmd_num ha; have nb := fmd_num hb
  have key : ∀ (c : UInt8), (c = 45 ∨ digB c = true) → c ≠ 110 ∧ c ≠ 102 ∧ c ≠ 116 ∧ c ≠ 34 ∧ c ≠ 91 ∧ c ≠ 123 := fun c hc => by
    rcases hc with rfl | hc
    · decide
    · refine ⟨?_, ?_, ?_, ?_, ?_, ?_⟩ <;> (rintro rfl; exact absurd hc (by decide))
  have ca : a.kind = 0 ∨ a.kind = 1 ∨ a.kind = 2 ∨ a.kind = 3 ∨ a.kind = 4 ∨ a.kind = 5 ∨ a.kind = 6 := by omega
  have cb : b.kind = 0 ∨ b.kind = 1 ∨ b.kind = 2 ∨ b.kind = 3 ∨ b.kind = 4 ∨ b.kind = 5 ∨ b.kind = 6 := by omega
  rcases ca with e | e | e | e | e | e | e <;> rcases cb with e' | e' | e' | e' | e' | e' | e' <;> rw [e, e'] at h ⊢ <;> simp [fb] at h <;> first
    | rfl
    | (have := key _ (fb_num (na.1 e)); simp_all; done)
    | (have := key _ (fb_num (nb.1 e')); simp_all; done)
end Go.Proofs.YtpiicncihccheaaDoor
