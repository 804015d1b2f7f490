/- The conditions are enough: shown against the machine. -/
import Derived.Test.YtpiicncihccheaaGreatDoorXC
namespace Go.XW
open Go.RowKit

structure Agree (N : Nat) (G0 : Fro) (f : Fr) (a : VAct) : Prop where
  get : ∀ n v, look n f = some v → a.tmps[n]? = some v
  start : a.start = G0
  len : a.tmps.length = N

theorem Agree.fits {N : Nat} {G0 : Fro} {f : Fr} {a : VAct} (h : Agree N G0 f a) : Fits (ev f) a.eval := by
  intro x v hx
  cases x with
  | tmp n =>
    have := h.get n v hx
    simp [VAct.eval, List.getD, this]
  | const x => simp only [ev, constE_eq, Option.some.injEq] at hx; rw [← hx]; rfl
  | global g => simp only [ev, Option.some.injEq] at hx; rw [← hx]; rfl
  | func g => simp only [ev, Option.some.injEq] at hx; rw [← hx]; rfl

theorem look_cons {n m : Nat} {v : V} {r : Fr} : look n ((m, v) :: r) = if n = m then some v else look n r := by
  show (bif Nat.beq n m then some v else look n r) = _
  by_cases h : n = m
  · subst h; simp
  · have : Nat.beq n m = false := by
      cases hb : Nat.beq n m with
      | false => rfl
      | true => exact absurd (Nat.eq_of_beq_eq_true hb) h
    simp [this, h]

theorem Agree.put {N : Nat} {G0 : Fro} {f : Fr} {a : VAct} (h : Agree N G0 f a) {d : Option Nat} (hd : dstOk N d = true) (v : V) : Agree N G0 (put d v f) (a.put d v) := by
  cases d with
  | none => exact h
  | some d =>
    have hlt : d < N := by have : d + 1 ≤ N := by simpa [dstOk, Nat.blt] using hd
                           omega
    refine ⟨fun n u hn => ?_, h.start, by simp [VAct.put, h.len]⟩
    simp only [Go.XW.put, look_cons] at hn
    simp only [VAct.put]
    split at hn
    · rename_i he
      subst he
      cases hn
      rw [List.getElem?_set_self (by rw [h.len]; exact hlt)]
    · rename_i hne
      rw [List.getElem?_set_ne (fun e => hne e.symm)]
      exact h.get n u hn

theorem Agree.lit {N : Nat} {G0 : Fro} {f : Fr} {a : VAct} (h : Agree N G0 f a) {t : Nat} {v : V} (ht : look t f = some v) : Agree N G0 ((t, v) :: f) a :=
  ⟨fun n u hn => by
    rw [look_cons] at hn
    split at hn
    · rename_i he; subst he; cases hn; exact h.get _ _ ht
    · exact h.get _ _ hn, h.start, h.len⟩

def LiftQ (N : Nat) (G0 : Fro) (KP : List PanicEntry → Hp → Prop) (Q : Ex → Fr → Hp → Prop) : Exit → VAct → Hp → Prop
  | .normal, a, h => ∃ f, Agree N G0 f a ∧ Wk (Q .normal) f h
  | .ret, a, h => ∃ f, Agree N G0 f a ∧ Wk (Q .ret) f h
  | .exit i, a, h => ∃ f, Agree N G0 f a ∧ Wk (Q (.exit i)) f h
  | .panic ch, a, h => a.start = G0 ∧ KP ch h
  | _, _, _ => False

/-! ### One operation -/
section
variable {P : Program} {N : Nat} {G0 : Fro} {KP : List PanicEntry → Hp → Prop} {rd : Bool} {ops : List Oper}

theorem comp1_cases {o : Oper} {x : A1} (h : comp1 P rd ops o = some x) :
    (∃ p, compX P o.op = some p ∧ x = .x p) ∨ (∃ p, compP P o.op = some p ∧ x = .p p) ∨ (∃ p, compR P o.op = some p ∧ x = .r p) ∨ (∃ p own, compW P own o.op = some p ∧ x = .w p) ∨ (∃ sz len zs parts own, compW P own o.op = some (.lit false sz len zs parts) ∧ x = .l sz len zs parts) ∨ (∃ f args own, compW P own o.op = some (.call f args) ∧ x = .rc f args) ∨ (∃ g args own, compW P own o.op = some (.callv g args) ∧ x = .rv g args) := by
  unfold comp1 at h
  split at h
  · rename_i p hp; cases h; exact .inl ⟨p, hp, rfl⟩
  refine .inr ?_
  split at h
  · rename_i p hp; cases h; exact .inl ⟨p, hp, rfl⟩
  · split at h
    · rename_i p hp; cases h; exact .inr (.inl ⟨p, hp, rfl⟩)
    · split at h
      · rename_i f args hp
        split at h
        · cases h; exact .inr (.inr (.inr (.inr (.inl ⟨f, args, _, hp, rfl⟩))))
        · cases h; exact .inr (.inr (.inl ⟨_, _, hp, rfl⟩))
      · rename_i g args hp
        split at h
        · cases h; exact .inr (.inr (.inr (.inr (.inr ⟨g, args, _, hp, rfl⟩))))
        · cases h; exact .inr (.inr (.inl ⟨_, _, hp, rfl⟩))
      · rename_i hp; cases h; exact .inr (.inr (.inr (.inl ⟨_, _, _, _, _, hp, rfl⟩)))
      · rename_i p _ _ _ hp; cases h; exact .inr (.inr (.inl ⟨p, _, hp, rfl⟩))
      · cases h

theorem takeK_re : ∀ {cs : List V} {n : Nat} {K K' : List V → Prop}, takeK cs n K → K' (cs.take n) → takeK cs n K'
  | cs, 0, K, K', h, k => by cases cs <;> exact k
  | c :: cs, n + 1, K, K', h, k => takeK_re (cs := cs) (n := n) h (by simpa using k)
  | [], n + 1, K, _, h, _ => h.elim
theorem skipK_re : ∀ {cs : List V} {n : Nat} {K K' : List V → Prop}, skipK cs n K → K' (cs.drop n) → skipK cs n K'
  | cs, 0, K, K', h, k => by cases cs <;> exact k
  | c :: cs, n + 1, K, K', h, k => skipK_re (cs := cs) (n := n) h (by simpa using k)
  | [], n + 1, K, _, h, _ => h.elim
theorem chunksK_re {sz : Nat} : ∀ {n : Nat} {cs : List V} {K : List (List V) → Prop}, chunksK sz n cs K → ∃ es, K es ∧ ∀ K' : List (List V) → Prop, K' es → chunksK sz n cs K'
  | 0, cs, K, h => ⟨[], h, fun _ k => k⟩
  | n + 1, cs, K, h => by
    obtain ⟨_, h2⟩ := takeK_get h
    obtain ⟨_, h3⟩ := skipK_get h2
    obtain ⟨es, k1, k2⟩ := chunksK_re h3
    exact ⟨_, k1, fun K' k => takeK_re h (skipK_re h2 (k2 _ k))⟩

theorem callRK_get {g : V} {vs : List V} {h : Hp} {K : V → Prop} (hk : callRK P g vs h K) : ∃ v, callvK P g vs h (fun v' h' => v' = v ∧ h' = h) (fun _ _ => False) ∧ K v := by
  unfold callRK at hk
  split at hk
  · obtain ⟨v, h1, h2⟩ := hk; exact ⟨v, h1, h2⟩
  · obtain ⟨v, h1, h2⟩ := hk; exact ⟨v, h1, h2⟩
  · exact hk.elim

theorem op1_class {o : Oper} {x : A1} (hc : comp1 P rd ops o = some x) {f : Fr} {a : VAct} (ha : Agree N G0 f a) {h : Hp} {K : V → Hp → Prop} (hk : op1 P KP x (ev f) h K) :
    (cls x = 0 ∧ ∃ v, (∀ h, VRead P o a.eval h v) ∧ K v h) ∨ (cls x = 1 ∧ ∃ v, VRead P o a.eval h v ∧ K v h) ∨ (cls x = 2 ∧ VOp P o a.eval h K KP) := by
  have hf := ha.fits
  rcases comp1_cases hc with ⟨p, hp, rfl⟩ | ⟨p, hp, rfl⟩ | ⟨p, hp, rfl⟩ | ⟨p, own, hp, rfl⟩ | ⟨sz, len, zs, parts, own, hp, rfl⟩ | ⟨g, args, own, hp, rfl⟩ | ⟨g, args, own, hp, rfl⟩
  · exact ovX_class hp hf (fun _ => rfl) hk
  · obtain ⟨v, h1, h2⟩ := ovP_sound (o := o) hp (fun _ => rfl) hf hk
    exact .inl ⟨rfl, v, fun h => h1.read h, h2⟩
  · obtain ⟨v, h1, h2⟩ := ovR_sound (o := o) hp hf hk
    exact .inr (.inl ⟨rfl, v, h1, h2⟩)
  · exact .inr (.inr ⟨rfl, ovW_sound (o := o) hp hf (fun _ => rfl) hk⟩)
  · obtain ⟨r, h1, hre⟩ := buildK_re hk
    obtain ⟨es, h2, h3⟩ := chunksK_re h1
    refine .inl ⟨rfl, .row sz es, fun h => ?_, h2⟩
    refine ovW_sound (o := o) (K := fun v' h' => v' = .row sz es ∧ h' = h) (KP := fun _ _ => False) hp hf (fun _ => rfl) ?_
    exact hre _ (h3 _ ⟨rfl, rfl⟩)
  · obtain ⟨vs, h1, ⟨v, h2, h3⟩⟩ := onL_get hk
    refine .inr (.inl ⟨rfl, v, ?_, h3⟩)
    refine ovW_sound (o := o) (K := fun v' h' => v' = v ∧ h' = h) (KP := fun _ _ => False) hp hf (fun _ => rfl) ?_
    have e1 := h1 a.eval hf
    have key : ∀ {xs : List Operand} {vs : List V} {C D : List V → Prop}, onL (ev f) xs C → xs.map a.eval = vs → D vs → onL (ev f) xs D := by
      intro xs
      induction xs with
      | nil => intro vs C D _ he hd; subst he; exact hd
      | cons y ys ih =>
        intro vs C D hc he hd
        obtain ⟨u, k1, k2⟩ := on_get hc
        subst he
        unfold onL
        rw [k1]
        refine ih k2 rfl ?_
        rw [List.map_cons, hf _ _ k1] at hd
        exact hd
    exact key hk e1 h2
  · obtain ⟨vg, k1, k2⟩ := on_get hk
    obtain ⟨vs, h1, h2⟩ := onL_get k2
    obtain ⟨v, h3, h4⟩ := callRK_get h2
    refine .inr (.inl ⟨rfl, v, ?_, h4⟩)
    refine ovW_sound (o := o) (K := fun v' h' => v' = v ∧ h' = h) (KP := fun _ _ => False) hp hf (fun _ => rfl) ?_
    have e1 := h1 a.eval hf
    have key : ∀ {xs : List Operand} {vs : List V} {C D : List V → Prop}, onL (ev f) xs C → xs.map a.eval = vs → D vs → onL (ev f) xs D := by
      intro xs
      induction xs with
      | nil => intro vs C D _ he hd; subst he; exact hd
      | cons y ys ih =>
        intro vs C D hc he hd
        obtain ⟨u, k1, k2⟩ := on_get hc
        subst he
        unfold onL
        rw [k1]
        refine ih k2 rfl ?_
        rw [List.map_cons, hf _ _ k1] at hd
        exact hd
    show on (ev f g) fun vg => onL (ev f) args fun vs => callvK P vg vs h (fun v' h' => v' = v ∧ h' = h) (fun _ _ => False)
    rw [k1]
    exact key k2 e1 h3

theorem op1_sound {o : Oper} {x : A1} (hc : comp1 P rd ops o = some x) {f : Fr} {a : VAct} (ha : Agree N G0 f a) {h : Hp} {K : V → Hp → Prop} (hk : op1 P KP x (ev f) h K) : VOp P o a.eval h K KP := by
  have weak : ∀ v, VRead P o a.eval h v → K v h → VOp P o a.eval h K KP := fun v h1 h2 => VOp.mono h1 (fun v' h' ⟨e1, e2⟩ => by subst e1; subst e2; exact h2) (fun _ _ h => h.elim)
  rcases op1_class hc ha hk with ⟨_, v, h1, h2⟩ | ⟨_, v, h1, h2⟩ | ⟨_, h1⟩
  · exact weak v (h1 h) h2
  · exact weak v h1 h2
  · exact h1

/-! ### A region's operations, one by one -/
theorem guard_slot {o : Oper} {j : Nat} {want : Bool} {t : Nat} {a : VAct} {b : Bool} (hg : o.guard = some (j, want)) (hj : (ops[j]?).bind (·.dst) = some t) (ht : a.tmps[t]? = some (vbool b)) : vwant ops o a = some (b == want) := by
  unfold vwant
  rw [hg]
  dsimp only
  rw [hj]
  dsimp only
  rw [ht]

def tagS (g : Option (Nat × Bool)) (d : Option Nat) (x : A1) (s : S) : S :=
  match g with
  | none => .op d x s
  | some (t, want) => .g t want d x s
/-- What the small language says of one tagged operation. -/
theorem reg_step {g : Option (Nat × Bool)} {d : Option Nat} {x : A1} {s : S} {Q : Ex → Fr → Hp → Prop} {f : Fr} {h : Hp} {o : Oper} (hc : comp1 P rd ops o = some x) (hd : dstOk N o.dst = true) (hdd : d = o.dst)
    (hg : (o.guard = none ∧ g = none) ∨ ∃ j want t, o.guard = some (j, want) ∧ (ops[j]?).bind (·.dst) = some t ∧ g = some (t, want) ∧ o.dst ≠ some t) {a : VAct} (ha : Agree N G0 f a)
    (hw : wp P KP (tagS g d x s) Q f h) {C : VAct → Hp → Prop} (hC : ∀ f a h, Agree N G0 f a → wp P KP s Q f h → C a h) :
    (vwant ops o a = some true ∧ ((cls x = 0 ∧ ∃ v, (∀ h, VRead P o a.eval h v) ∧ C (a.put o.dst v) h) ∨ (cls x = 1 ∧ ∃ v, VRead P o a.eval h v ∧ C (a.put o.dst v) h) ∨ (cls x = 2 ∧ VOp P o a.eval h (fun v h' => C (a.put o.dst v) h') KP))) ∨
    (vwant ops o a = some false ∧ C (a.put o.dst (.v undef)) h) := by
  subst hdd
  rcases hg with ⟨hg1, rfl⟩ | ⟨j, want, t, hg1, hg2, rfl, hg3⟩
  · refine .inl ⟨by unfold vwant; rw [hg1], ?_⟩
    have hw : op1 P KP x (ev f) h fun v h' => wp P KP s Q (put o.dst v f) h' := hw
    rcases op1_class hc ha hw with ⟨c, v, h1, h2⟩ | ⟨c, v, h1, h2⟩ | ⟨c, h1⟩
    · exact .inl ⟨c, v, h1, hC _ _ _ (ha.put hd v) h2⟩
    · exact .inr (.inl ⟨c, v, h1, hC _ _ _ (ha.put hd v) h2⟩)
    · exact .inr (.inr ⟨c, h1.mono (fun v h' hk => hC _ _ _ (ha.put hd v) hk) (fun _ _ h => h)⟩)
  · have hw : gK (look t f) (wp P KP s Q (put o.dst (.v undef) f) h) fun b => bif want then Br b (op1 P KP x (ev ((t, vbool true) :: f)) h fun v h' => wp P KP s Q (put o.dst v ((t, vbool true) :: f)) h') (wp P KP s Q (put o.dst (.v undef) ((t, vbool false) :: f)) h)
      else Br b (wp P KP s Q (put o.dst (.v undef) ((t, vbool true) :: f)) h) (op1 P KP x (ev ((t, vbool false) :: f)) h fun v h' => wp P KP s Q (put o.dst v ((t, vbool false) :: f)) h') := hw
    cases hl : look t f with
    | none => rw [hl] at hw; exact hw.elim
    | some u =>
      rw [hl] at hw
      unfold gK at hw
      split at hw
      · rename_i b he
        cases he
        have ht := ha.get t _ hl
        have hv := guard_slot (o := o) (want := want) hg1 hg2 ht
        have hrun : ∀ f', Agree N G0 f' a → (op1 P KP x (ev f') h fun v h' => wp P KP s Q (put o.dst v f') h') → ((cls x = 0 ∧ ∃ v, (∀ h, VRead P o a.eval h v) ∧ C (a.put o.dst v) h) ∨ (cls x = 1 ∧ ∃ v, VRead P o a.eval h v ∧ C (a.put o.dst v) h) ∨ (cls x = 2 ∧ VOp P o a.eval h (fun v h' => C (a.put o.dst v) h') KP)) := by
          intro f' ha' hw
          rcases op1_class hc ha' hw with ⟨c, v, h1, h2⟩ | ⟨c, v, h1, h2⟩ | ⟨c, h1⟩
          · exact .inl ⟨c, v, h1, hC _ _ _ (ha'.put hd v) h2⟩
          · exact .inr (.inl ⟨c, v, h1, hC _ _ _ (ha'.put hd v) h2⟩)
          · exact .inr (.inr ⟨c, h1.mono (fun v h' hk => hC _ _ _ (ha'.put hd v) hk) (fun _ _ h => h)⟩)
        cases b <;> cases want
        · have ha' := ha.lit hl
          exact .inl ⟨hv, hrun _ ha' (hw.f rfl)⟩
        · have ha' := ha.lit hl
          exact .inr ⟨hv, hC _ _ _ (ha'.put hd _) (hw.f rfl)⟩
        · have ha' := ha.lit hl
          exact .inr ⟨hv, hC _ _ _ (ha'.put hd _) (hw.t rfl)⟩
        · have ha' := ha.lit hl
          exact .inl ⟨hv, hrun _ ha' (hw.t rfl)⟩
      · rename_i us he
        cases he
        have ht := ha.get t _ hl
        refine .inr ⟨?_, hC _ _ _ (ha.put hd _) hw⟩
        unfold vwant
        rw [hg1]
        dsimp only
        rw [hg2]
        dsimp only
        rw [ht]
      · exact hw.elim

theorem regL_cons {o : Oper} {rest : List Oper} {l : List (Option (Nat × Bool) × Option Nat × A1)} (h : regL P N rd ops (o :: rest) = some l) :
    ∃ g x l', l = (g, o.dst, x) :: l' ∧ regL P N rd ops rest = some l' ∧ comp1 P rd ops o = some x ∧ dstOk N o.dst = true ∧ ((o.guard = none ∧ g = none) ∨ ∃ j want t, o.guard = some (j, want) ∧ (ops[j]?).bind (·.dst) = some t ∧ g = some (t, want) ∧ o.dst ≠ some t) := by
  unfold regL at h
  split at h
  · rename_i a r h1 h2
    split at h
    · rename_i hd
      split at h
      · rename_i hg; cases h; exact ⟨none, a, r, rfl, h2, h1, hd, .inl ⟨hg, rfl⟩⟩
      · rename_i j want hg
        split at h
        · rename_i t ht
          split at h
          · cases h
          · rename_i hne
            cases h; exact ⟨some (t, want), a, r, rfl, h2, h1, hd, .inr ⟨j, want, t, hg, ht, rfl, hne⟩⟩
        · cases h
    · cases h
  · cases h

theorem regS_cons (g : Option (Nat × Bool)) (d : Option Nat) (x : A1) (l : List (Option (Nat × Bool) × Option Nat × A1)) (r : S) : regS ((g, d, x) :: l) r = tagS g d x (regS l r) := by
  cases g <;> rfl

theorem seq_sound {r : S} {Q : Ex → Fr → Hp → Prop} {KQ : VAct → Hp → Prop} (hK : ∀ f a h, Agree N G0 f a → wp P KP r Q f h → KQ a h) : ∀ {rest : List Oper} {l : List (Option (Nat × Bool) × Option Nat × A1)} {f : Fr} {a : VAct} {h : Hp}, regL P N rd ops rest = some l → Agree N G0 f a → wp P KP (regS l r) Q f h → VSeq P ops KQ KP rest a h := by
  intro rest
  induction rest with
  | nil => intro l f a h hl ha hw; simp [regL] at hl; subst hl; exact hK f a h ha hw
  | cons o rest ih =>
    intro l f a h hl ha hw
    obtain ⟨g, x, l', rfl, h1, h2, h3, h4⟩ := regL_cons hl
    rw [regS_cons] at hw
    have weak : ∀ v, VRead P o a.eval h v → VSeq P ops KQ KP rest (a.put o.dst v) h → VOp P o a.eval h (fun v h' => VSeq P ops KQ KP rest (a.put o.dst v) h') KP := fun v h1 h2 => VOp.mono h1 (fun v' h' ⟨e1, e2⟩ => by subst e1; subst e2; exact h2) (fun _ _ h => h.elim)
    unfold VSeq
    rcases reg_step h2 h3 rfl h4 ha hw (C := fun a h => VSeq P ops KQ KP rest a h) (fun f a h ha hw => ih h1 ha hw) with ⟨hv, ⟨_, v, k1, k2⟩ | ⟨_, v, k1, k2⟩ | ⟨_, k1⟩⟩ | ⟨hv, k1⟩
    · rw [hv]; exact weak v (k1 h) k2
    · rw [hv]; exact weak v k1 k2
    · rw [hv]; exact k1
    · rw [hv]; exact k1

theorem walk_sound {r : S} {Q : Ex → Fr → Hp → Prop} {KQ : VAct → Hp → Prop} (hK : ∀ f a h, Agree N G0 f a → wp P KP r Q f h → KQ a h) : ∀ (pre rest : List Oper) {l : List (Option (Nat × Bool) × Option Nat × A1)} {f : Fr} {a : VAct} {h : Hp}, ops = pre ++ rest → regL P N rd ops rest = some l → Agree N G0 f a → wp P KP (regS l r) Q f h →
    VWalk P ops KQ KP (((l.map fun x => cls x.2.2).zipIdx pre.length).map fun x => (x.2, x.1)) a h := by
  intro pre rest
  induction rest generalizing pre with
  | nil => intro l f a h he hl ha hw; simp [regL] at hl; subst hl; exact hK f a h ha hw
  | cons o rest ih =>
    intro l f a h he hl ha hw
    obtain ⟨g, x, l', rfl, h1, h2, h3, h4⟩ := regL_cons hl
    rw [regS_cons] at hw
    have ho : ops[pre.length]? = some o := by rw [he]; simp
    simp only [List.map_cons, List.zipIdx_cons]
    unfold VWalk VStep
    rw [ho]
    have hdo : dstOf ops pre.length = o.dst := by simp [dstOf, ho]
    rw [hdo]
    dsimp only
    have he' : ops = (pre ++ [o]) ++ rest := by rw [he]; simp
    have hlen : (pre ++ [o]).length = pre.length + 1 := by simp
    rcases reg_step h2 h3 rfl h4 ha hw (C := fun a h => VWalk P ops KQ KP (((l'.map fun x => cls x.2.2).zipIdx (pre.length + 1)).map fun x => (x.2, x.1)) a h) (fun f a h ha hw => by
      have := ih (pre ++ [o]) he' h1 ha hw
      rw [hlen] at this
      exact this) with ⟨hv, ⟨hc, v, k1, k2⟩ | ⟨hc, v, k1, k2⟩ | ⟨hc, k1⟩⟩ | ⟨hv, k1⟩
    · rw [hv, hc]; exact ⟨v, k1, k2⟩
    · rw [hv, hc]; exact ⟨v, k1, k2⟩
    · rw [hv, hc]; exact k1
    · rw [hv]; exact k1

theorem reg_sound {rr : Option Nat} {id : Nat} {ops : Array Oper} {draw : Bool} {l : List (Option (Nat × Bool) × Option Nat × A1)} (hl : regC P N ops.toList draw = some l) {r : S} {Q : Ex → Fr → Hp → Prop} {f : Fr} {a : VAct} {h : Hp} (ha : Agree N G0 f a) (hw : wp P KP (regS l r) Q f h) :
    VW P rr (.region id ops draw) (LiftQ N G0 KP (withN (fun f h => wp P KP r Q f h) Q)) a h := by
  unfold regC at hl
  split at hl
  · rename_i hpl
    have hops : ops.toList.toArray = ops := by simp
    -- the frames' panics end with no defers left
    have hQ : ∀ ch (a : VAct) h, (a.start = G0 ∧ KP ch h) → LiftQ N G0 KP (withN (fun f h => wp P KP r Q f h) Q) (.panic ch) a h := fun ch a h hk => hk
    split at hl
    · split at hl
      · rename_i hm
        have key : ∀ rd l, regL P N rd ops.toList ops.toList = some l → chkAll ops.toList (certD ops.toList) (ordOf l) = true → wp P KP (regS l r) Q f h → VW P rr (.region id ops true) (LiftQ N G0 KP (withN (fun f h => wp P KP r Q f h) Q)) a h := by
          intro rd l h1 h2 hw
          have := walk_sound (KQ := fun a h => LiftQ N G0 KP (withN (fun f h => wp P KP r Q f h) Q) .normal a h) (fun f a h ha hw => ⟨f, ha, .now _ _ hw⟩) [] ops.toList rfl h1 ha hw
          have hv := vw_region_draw (id := id) (r := rr) (show a.rest = a.rest from rfl) (certD ops.toList) (ordOf l) hm hpl h2 (Q := LiftQ N G0 KP (withN (fun f h => wp P KP r Q f h) Q)) (KP := KP) (fun ch a' h hd hk => ⟨(congrArg Prod.snd hd).trans ha.start, hk⟩) this
          rwa [hops] at hv
        rename_i hdr
        have hdr : draw = true := hdr
        subst hdr
        split at hl
        · rename_i l1 h1
          split at hl
          · rename_i h2; cases hl; exact key _ _ h1 h2 hw
          · split at hl
            · rename_i l2 h3
              split at hl
              · rename_i h4; cases hl; exact key _ _ h3 h4 hw
              · cases hl
            · cases hl
        · cases hl
      · cases hl
    · rename_i hdr
      have hdr : draw = false := by simpa using hdr
      subst hdr
      have := seq_sound (KQ := fun a h => LiftQ N G0 KP (withN (fun f h => wp P KP r Q f h) Q) .normal a h) (fun f a h ha hw => ⟨f, ha, .now _ _ hw⟩) hl ha hw
      have hv := vw_region (id := id) (r := rr) (show a.rest = a.rest from rfl) hpl (Q := LiftQ N G0 KP (withN (fun f h => wp P KP r Q f h) Q)) (KP := KP) (fun ch a' h hd hk => ⟨(congrArg Prod.snd hd).trans ha.start, hk⟩) this
      rwa [hops] at hv
  · cases hl
end
end Go.XW
