/- A function's contract, out of its conditions. -/
import Derived.Test.YtpiicncihccheaaGreatDoorXD
set_option linter.unusedVariables false
namespace Go.XW
open Go.RowKit

theorem RepL.of_get2 {F : Fro} : ∀ {xs : List V} {us : List Value}, xs.length = us.length → (∀ (i : Nat) x u, xs[i]? = some x → us[i]? = some u → Rep F x u) → RepL F xs us
  | [], [], _, _ => .nil
  | x :: xs, u :: us, hl, h => .cons _ _ _ _ (h 0 x u (by simp) (by simp)) (RepL.of_get2 (by simpa using hl) fun i x u hx hu => h (i + 1) x u (by simpa using hx) (by simpa using hu))
  | [], _ :: _, h, _ => by simp at h
  | _ :: _, [], h, _ => by simp at h

theorem VFz.rep {k sz : Nat} {es : List (List V)} {F : Fro} {g tot : Nat} {us : Array Value} {t : TypeId} {fr : Nat × Nat} (hk : (F.r k = some none ∧ es = []) ∨ (F.r k = some (some (g, tot)) ∧ F.f g = some (.cells us t fr) ∧ RepR F sz es us.toList)) {x y : V} (hz : VFz k sz es x y) : ∀ {u : Value}, Rep F x u → Rep F y u := by
  induction hz with
  | same => intro u h; exact h
  | osl off n hle =>
    intro u h
    cases h with
    | osl0 _ _ _ a => rw [List.take_zero]; exact .row0 sz a 0
    | osl _ _ _ _ c g' tot' hr hnc htot hc =>
      rcases hk with ⟨hk, _⟩ | ⟨hk, hf, hrr⟩
      · rw [hk] at hr; cases hr
      · rw [hk] at hr
        cases hr
        exact .row sz _ g (off * sz) n c us t fr hf (by simp; omega) hnc ((hrr.drop off).take n)
  | all n hn =>
    intro u h
    cases h with
    | osl0 _ _ _ a =>
      have : es = [] := List.length_eq_zero_iff.1 hn
      subst this
      exact .row0 sz a 0
    | osl _ _ _ _ c g' tot' hr hnc htot hc =>
      rcases hk with ⟨hk, _⟩ | ⟨hk, hf, hrr⟩
      · rw [hk] at hr; cases hr
      · rw [hk] at hr
        cases hr
        refine .row sz _ g (0 * sz) n c us t fr hf hn.symm hnc ?_
        simpa using hrr
  | ptr i j e he =>
    intro u h
    cases h with
    | ptr _ _ _ _ g' tot' hr =>
      rcases hk with ⟨hk, _⟩ | ⟨hk, hf, hrr⟩
      · rw [hk] at hr; cases hr
      · rw [hk] at hr
        cases hr
        have := (hrr.at i e he).1.drop j
        rw [List.drop_drop] at this
        exact .adr _ g (i * sz + j) us t fr hf this
  | agg0 => intro u h; exact h
  | agg x y xs ys h1 h2 ih1 ih2 =>
    intro u h
    cases h with
    | agg _ us' hl =>
      cases hus : us'.toList with
      | nil => rw [hus] at hl; cases hl
      | cons a b =>
        rw [hus] at hl
        cases hl with
        | cons _ _ _ _ k1 k2 =>
          have k3 := ih2 (u := .agg b.toArray) (.agg _ _ (by simpa using k2))
          cases k3 with
          | agg _ _ k4 => exact .agg _ _ (by rw [hus]; exact .cons _ _ _ _ (ih1 k1) (by simpa using k4))
  | tup0 => intro u h; exact h
  | tup x y xs ys h1 h2 ih1 ih2 =>
    intro u h
    cases h with
    | tup _ us' hl =>
      cases hus : us'.toList with
      | nil => rw [hus] at hl; cases hl
      | cons a b =>
        rw [hus] at hl
        cases hl with
        | cons _ _ _ _ k1 k2 =>
          have k3 := ih2 (u := .tuple b.toArray) (.tup _ _ (by simpa using k2))
          cases k3 with
          | tup _ _ k4 => exact .tup _ _ (by rw [hus]; exact .cons _ _ _ _ (ih1 k1) (by simpa using k4))
  | ifc t' x y h1 ih =>
    intro u h
    cases h with
    | ifc _ _ u' h2 => exact .ifc _ _ _ (ih h2)
  | fn f' a b b2 h1 ih =>
    intro u h
    cases h with
    | fn _ _ _ a' b' ha hb =>
      have h2 := ih (.agg _ b' hb)
      cases h2 with
      | agg _ _ h3 => exact .fn _ _ _ a' b' ha h3

/-- Block k is frozen. -/
theorem Sim.freeze2 {base : World} {F : Fro} {h1 h2 : Hp} {w : World} {k sz : Nat} {es : List (List V)} (hs : Sim base F (h1 ++ (k, .blk sz es) :: h2) w) :
    ∃ F', FLe F F' ∧ Sim base F' (h1 ++ h2) w ∧ ∀ {x y : V} {u : Value}, VFz k sz es x y → Rep F' x u → Rep F' y u := by
  obtain ⟨s1, s2, s3⟩ := hs.out
  rcases s3 with ⟨hv, hv2⟩ | ⟨g, tot, us, t, fr, a, b, c, d, z, y⟩
  · exact ⟨F, FLe.refl F, s1, fun hz hr => VFz.rep (g := 0) (tot := 0) (us := #[]) (t := 0) (fr := (0, 0)) (.inl ⟨hv, hv2⟩) hz hr⟩
  · have hle : FLe F ⟨fun j => if j = g then some (.cells us t fr) else F.f j, F.r⟩ := by
      refine ⟨fun j o hj => ?_, fun _ _ h => h⟩
      have : j ≠ g := fun he => by rw [he, b] at hj; cases hj
      simp [this, hj]
    refine ⟨⟨fun j => if j = g then some (.cells us t fr) else F.f j, F.r⟩, hle, ⟨s1.below, ?_, s1.adr, s1.inj, s1.fresh, s1.nodup, ?_, s1.typ⟩, fun hz hr => VFz.rep (F := ⟨fun j => if j = g then some (.cells us t fr) else F.f j, F.r⟩) (g := g) (tot := tot) (us := us) (t := t) (fr := fr) (.inr ⟨a, by simp, y.mono hle⟩) hz hr⟩
    · intro j o hj
      dsimp only at hj
      split at hj
      · rename_i he; subst he; cases hj; exact c
      · exact s1.fro j o hj
    · intro k' c' hm
      have h3 := s1.own k' c' hm
      have hne : ∀ g' tot', F.r k' = some (some (g', tot')) → g' ≠ g := fun g' tot' hr he => by
        subst he
        have := s1.inj _ _ _ _ _ a hr
        subst this
        exact s2 _ hm
      cases c' with
      | blk sz' es' =>
        rcases h3 with h3 | ⟨g', tot', us', t', fr', a', b', c', d', z', y'⟩
        · exact .inl h3
        · exact .inr ⟨g', tot', us', t', fr', a', by simp [hne g' tot' a', b'], c', d', z', y'.mono hle⟩
      | obj o =>
        obtain ⟨g', tot', a', b', c'⟩ := h3
        exact ⟨g', tot', a', by simp [hne g' tot' a', b'], c'⟩
      | lp N f r =>
        obtain ⟨g', tot', tmps', a', b', c', d', e'⟩ := h3
        exact ⟨g', tot', tmps', a', by simp [hne g' tot' a', b'], c', d', e'.mono hle⟩
      | tab g' vs => obtain ⟨a', t', fr', b'⟩ := h3; exact ⟨a', t', fr', hle.1 _ _ b'⟩

theorem Sim.freeze {base : World} {F : Fro} {h1 h2 : Hp} {w : World} {k sz : Nat} {es : List (List V)} (hs : Sim base F (h1 ++ (k, .blk sz es) :: h2) w) :
    ∃ F', FLe F F' ∧ Sim base F' (h1 ++ h2) w ∧ ∀ {x y : V} {u : Value}, VFz k sz es x y → Rep F x u → Rep F' y u := by
  obtain ⟨F', g1, g2, g3⟩ := hs.freeze2
  exact ⟨F', g1, g2, fun hz hr => g3 hz (hr.mono g1)⟩
/-- Blocks seen as less. -/
theorem LR.repL {R : V → V → Prop} {F F' : Fro} (hr : ∀ v v2, R v v2 → ∀ u, Rep F v u → Rep F' v2 u) : ∀ {xs ys : List V} {us : List Value}, RepL F xs us → LR R xs ys → RepL F' ys us
  | _, _, _, .nil, .nil => .nil
  | _, _, _, .cons _ _ _ _ h k, .cons _ _ _ _ l m => .cons _ _ _ _ (hr _ _ l _ h) (LR.repL hr k m)
theorem LR.repP {R : V → V → Prop} {F F' : Fro} (hr : ∀ v v2, R v v2 → ∀ u, Rep F v u → Rep F' v2 u) : ∀ {xs ys : List V} {us : List Value}, RepP F xs us → LR R xs ys → RepP F' ys us
  | _, _, _, .nil _, .nil => .nil _
  | _, _, _, .cons _ _ _ _ h k, .cons _ _ _ _ l m => .cons _ _ _ _ (hr _ _ l _ h) (LR.repP hr k m)
theorem LR.len {R : V → V → Prop} : ∀ {xs ys : List V}, LR R xs ys → xs.length = ys.length
  | _, _, .nil => rfl
  | _, _, .cons _ _ _ _ _ m => by simp [m.len]
theorem ER.repR {R : V → V → Prop} {F F' : Fro} (hr : ∀ v v2, R v v2 → ∀ u, Rep F v u → Rep F' v2 u) : ∀ {sz : Nat} {xs ys : List (List V)} {us : List Value}, RepR F sz xs us → ER R xs ys → RepR F' sz ys us
  | _, _, _, _, .nil _ _, .nil => .nil _ _
  | _, _, _, _, .cons _ _ _ _ h1 h2 h3, .cons _ _ _ _ l m => .cons _ _ _ _ (by rw [← l.len]; exact h1) (l.repP hr h2) (m.repR hr h3)
theorem ER.nil_iff {R : V → V → Prop} {es2 : List (List V)} (h : ER R [] es2) : es2 = [] := by cases h; rfl
theorem HR.keys {R : V → V → Prop} {h h2 : Hp} (hr : HR R h h2) : h2.map Prod.fst = h.map Prod.fst := by
  induction hr with
  | same h => rfl
  | blk k sz es es2 h h2 he hr ih => simp [ih]
  | skip x h h2 hr ih => simp [ih]
theorem HR.holds {R : V → V → Prop} {F : Fro} {w : World} {h h2 : Hp} (hr : ∀ v v2, R v v2 → ∀ u, Rep F v u → Rep F v2 u) (hh : HR R h h2) : (∀ k c, (k, c) ∈ h → Holds F w k c) → ∀ k c, (k, c) ∈ h2 → Holds F w k c := by
  induction hh with
  | same h => exact fun h => h
  | blk k sz es es2 h h2 he hr2 ih =>
    intro ho k' c hm
    rcases List.mem_cons.1 hm with h1 | h1
    · cases h1
      rcases ho k (.blk sz es) (by simp) with ⟨a, b⟩ | ⟨g, tot, us, t, fr, a, b, c, d, z, y⟩
      · subst b; exact .inl ⟨a, he.nil_iff⟩
      · exact .inr ⟨g, tot, us, t, fr, a, b, c, d, z, he.repR hr y⟩
    · exact ih (fun k c hm => ho k c (List.mem_cons_of_mem _ hm)) k' c h1
  | skip x h h2 hr2 ih =>
    intro ho k' c hm
    rcases List.mem_cons.1 hm with h1 | h1
    · exact ho k' c (by rw [h1]; simp)
    · exact ih (fun k c hm => ho k c (List.mem_cons_of_mem _ hm)) k' c h1
theorem Sim.views {R : V → V → Prop} {base : World} {F : Fro} {w : World} {h h2 : Hp} (hs : Sim base F h w) (hr : ∀ v v2, R v v2 → ∀ u, Rep F v u → Rep F v2 u) (hh : HR R h h2) : Sim base F h2 w :=
  ⟨hs.below, hs.fro, hs.adr, hs.inj, hs.fresh, by rw [hh.keys]; exact hs.nodup, hh.holds hr hs.own, hs.typ⟩
theorem HS.views {h h2 : Hp} (hh : HR VLe h h2) : HS VLe h h2 := fun base F w hs =>
  ⟨F, FLe.refl F, hs.views (fun v v2 hl u hr => hr.weak hl) hh, fun v v2 hl u hr => hr.weak hl⟩
theorem HS.freeze {h1 h2 h3 : Hp} {k sz : Nat} {es : List (List V)} (hh : HR (VFz k sz es) (h1 ++ h2) h3) : HS (VFz k sz es) (h1 ++ (k, .blk sz es) :: h2) h3 := fun base F w hs => by
  obtain ⟨F', g1, g2, g3⟩ := hs.freeze2
  exact ⟨F', g1, g2.views (fun v v2 hz u hr => g3 hz hr) hh, fun v v2 hz u hr => g3 hz (hr.mono g1)⟩
theorem Back.from {base : World} {F G : Fro} {R : V → Hp → Prop} {RP : List PanicEntry → Hp → Prop} {e : Ending} {w : World} (hb : Back base G R RP e w) (hF : FLe F G) : Back base F R RP e w := by
  cases e with
  | returned u => exact Seen.from hb hF
  | panicked c => exact Seen.from hb hF
  | outgrown => exact hb
/-- A call, its arguments and the blocks seen otherwise. -/
theorem VCalls.gen {P : Program} {f : FuncId} {args args2 : List V} {h h2 : Hp} {Q : V → V → Prop} {R : V → Hp → Prop} {RP : List PanicEntry → Hp → Prop} (hh : HS Q h h2) (ha : LR Q args args2) (hc : VCalls P f args2 h2 R RP) : VCalls P f args h R RP :=
  ⟨hc.ok, fun base F args' w hs hr => by
    obtain ⟨F', g1, g2, g3⟩ := hh base F w hs
    exact (hc.run base F' args' w g2 (ha.repL g3 hr)).mono fun e w' hb => Back.from hb g1⟩
section
variable {P : Program} {N : Nat} {G0 : Fro} {KP : List PanicEntry → Hp → Prop} {rr : Option Nat} {c : Code} {QQ : Exit → VAct → Hp → Prop}

def cutA (N : Nat) (f : Fr) (a : VAct) : VAct := { a with tmps := (List.range N).map fun n => (look n f).getD .any }

theorem VLeL.of_get : ∀ {xs ys : List V}, xs.length = ys.length → (∀ (i : Nat) x y, xs[i]? = some x → ys[i]? = some y → VLe x y) → VLeL xs ys
  | [], [], _, _ => .nil
  | x :: xs, y :: ys, hl, h => .cons _ _ _ _ (h 0 x y (by simp) (by simp)) (VLeL.of_get (by simpa using hl) fun i x y hx hy => h (i + 1) x y (by simpa using hx) (by simpa using hy))
  | [], _ :: _, h, _ => by simp at h
  | _ :: _, [], h, _ => by simp at h

theorem Agree.sub {f f2 : Fr} {a : VAct} (ha : Agree N G0 f a) (hs : Sub1 f f2) : Agree N G0 f2 (cutA N f2 a) ∧ VLeL a.tmps (cutA N f2 a).tmps := by
  refine ⟨⟨fun n v hn => ?_, ha.start, by simp [cutA]⟩, VLeL.of_get (by simp [cutA, ha.len]) fun i x y hx hy => ?_⟩
  · obtain ⟨u, h1, _⟩ := hs n v hn
    have h2 := ha.get n u h1
    have hlt : n < N := by
      have := (List.getElem?_eq_some_iff.1 h2).1
      rwa [ha.len] at this
    simp [cutA, hlt, hn]
  · have hlt : i < N := by
      have := (List.getElem?_eq_some_iff.1 hx).1
      rwa [ha.len] at this
    simp [cutA, hlt] at hy
    subst hy
    cases hl : look i f2 with
    | none => exact .any _
    | some v =>
      obtain ⟨u, h1, h2⟩ := hs i v hl
      have h3 := ha.get i u h1
      rw [h3] at hx
      cases hx
      exact h2

theorem Agree.gen {R : V → V → Prop} {F F' : Fro} {f f2 : Fr} {a : VAct} {act : Act} (hF : FLe F F') (ha : Agree N G0 f a) (hr : ∀ v v2, R v v2 → ∀ u, Rep F v u → Rep F' v2 u) (hf : ∀ n v, look n f2 = some v → ∃ u, look n f = some u ∧ R u v) (hact : RepAct F a act) : Agree N G0 f2 (cutA N f2 a) ∧ RepAct F' (cutA N f2 a) act := by
  refine ⟨⟨fun n v hn => ?_, ha.start, by simp [cutA]⟩, ?_, hact.defers, hact.start.trans hF, hact.marks.mono hF⟩
  · obtain ⟨u, h1, _⟩ := hf n v hn
    have h2 := ha.get n u h1
    have hlt : n < N := by
      have := (List.getElem?_eq_some_iff.1 h2).1
      rwa [ha.len] at this
    simp [cutA, hlt, hn]
  · have hl := hact.tmps.length
    refine RepL.of_get2 (by rw [← hl, ha.len]; simp [cutA]) fun i x u hx hu => ?_
    have hlt : i < N := by
      have := (List.getElem?_eq_some_iff.1 hx).1
      simpa [cutA] using this
    simp [cutA, hlt] at hx
    subst hx
    cases hl2 : look i f2 with
    | none => exact .any _
    | some v =>
      obtain ⟨u1, h1, h2⟩ := hf i v hl2
      obtain ⟨x, hx1, hx2⟩ := hact.tmps.get (ha.get i u1 h1)
      rw [hx1] at hu
      cases hu
      exact hr _ _ h2 _ hx2

theorem Wk.use {I : Fr → Hp → Prop} {f : Fr} {h : Hp} (hw : Wk I f h) : ∀ {a : VAct}, Agree N G0 f a → (∀ f h a, I f h → Agree N G0 f a → VW P rr c QQ a h) → VW P rr c QQ a h := by
  induction hw with
  | now f h hi => intro a ha hk; exact hk f h a hi ha
  | gen R f f2 h h2 hs hf hw ih =>
    intro a ha hk
    intro base F act w hsim hact
    obtain ⟨F', g1, g2, g3⟩ := hs base F w hsim
    obtain ⟨g4, g5⟩ := Agree.gen g1 ha g3 hf hact
    exact wpIn_mono (ih g4 hk base F' act w g2 g5) fun _ _ _ hl => Lift.from g1 hl
  | sub f f2 h hs hw ih =>
    intro a ha hk
    obtain ⟨h1, h2⟩ := ha.sub hs
    exact vw_weak h2 rfl (ih h1 hk)
  | less f h h2 hl hw ih => intro a ha hk; exact vw_less hl (ih ha hk)
  | perm f h h2 hl hw ih =>
    intro a ha hk
    have := ih ha hk
    exact fun base F act w hs ha => this base F act w (hs.perm hl) ha
  | name sz f h hw ih =>
    intro a ha hk
    intro base F act w hs hact
    obtain ⟨F', k, f1, f2⟩ := Sim.fresh_name (h1 := []) hs sz
    exact wpIn_mono (ih k ha hk base F' act w f2 (hact.mono f1)) fun _ _ _ hl => Lift.from f1 hl
  | fz n u v f h1 h2 k sz es hu hv hw ih =>
    intro a ha hk
    intro base F act w hs hact
    obtain ⟨F', g1, g2⟩ := hs.freeze
    have ha2 : Agree N G0 ((n, v) :: f) (a.put (some n) v) := by
      have hlt : n < N := by
        have := (List.getElem?_eq_some_iff.1 (ha.get n u hu)).1
        rwa [ha.len] at this
      have := ha.put (d := some n) (by simpa [dstOk, Nat.blt] using (show n + 1 ≤ N from hlt)) v
      exact this
    have hact2 : RepAct F' (a.put (some n) v) act := by
      obtain ⟨x, hx1, hx2⟩ := hact.tmps.get (ha.get n u hu)
      have h3 := g2.2 hv hx2
      refine ⟨?_, hact.defers, hact.start.trans g1, hact.marks.mono g1⟩
      have h4 := (hact.tmps.mono g1).set h3 n
      have h5 : act.tmps.toList.set n x = act.tmps.toList := by
        apply List.ext_getElem?
        intro i
        by_cases hi : n = i
        · subst hi
          rw [List.getElem?_set]
          have : n < act.tmps.toList.length := (List.getElem?_eq_some_iff.1 hx1).1
          simp only [if_true, this, hx1]
        · rw [List.getElem?_set_ne hi]
      rw [h5] at h4
      exact h4
    exact wpIn_mono (ih ha2 hk base F' act w g2.1 hact2) fun _ _ _ hl => Lift.from g1 hl

theorem Wk.mono {I J : Fr → Hp → Prop} {f : Fr} {h : Hp} (hw : Wk I f h) (hij : ∀ f h, I f h → J f h) : Wk J f h := by
  induction hw with
  | now f h hi => exact .now f h (hij f h hi)
  | gen R f f2 h h2 hs hf hw ih => exact .gen R f f2 h h2 hs hf ih
  | sub f f2 h hs hw ih => exact .sub f f2 h hs ih
  | less f h h2 hl hw ih => exact .less f h h2 hl ih
  | perm f h h2 hl hw ih => exact .perm f h h2 hl ih
  | name sz f h hw ih => exact .name sz f h ih
  | fz n u v f h1 h2 k sz es hu hv hw ih => exact .fz n u v f h1 h2 k sz es hu hv ih
theorem Wk.flat {I : Fr → Hp → Prop} {f : Fr} {h : Hp} (hw : Wk (Wk I) f h) : Wk I f h := by
  induction hw with
  | now f h hi => exact hi
  | gen R f f2 h h2 hs hf hw ih => exact .gen R f f2 h h2 hs hf ih
  | sub f f2 h hs hw ih => exact .sub f f2 h hs ih
  | less f h h2 hl hw ih => exact .less f h h2 hl ih
  | perm f h h2 hl hw ih => exact .perm f h h2 hl ih
  | name sz f h hw ih => exact .name sz f h ih
  | fz n u v f h1 h2 k sz es hu hv hw ih => exact .fz n u v f h1 h2 k sz es hu hv ih
theorem Wk.ne {I : Fr → Hp → Prop} {f : Fr} {h : Hp} (hw : Wk I f h) (hi : ∀ f h, ¬ I f h) : False := by
  induction hw with
  | now f h h1 => exact hi f h h1
  | gen R f f2 h h2 hs hf hw ih => exact ih
  | sub f f2 h hs hw ih => exact ih
  | less f h h2 hl hw ih => exact ih
  | perm f h h2 hl hw ih => exact ih
  | name sz f h hw ih => exact ih 0
  | fz n u v f h1 h2 k sz es hu hv hw ih => exact ih

theorem LiftQ.mono {Q Q' : Ex → Fr → Hp → Prop} (hq : ∀ e f h, Q e f h → Q' e f h) : ∀ e a h, LiftQ N G0 KP Q e a h → LiftQ N G0 KP Q' e a h := by
  intro e a h hl
  cases e <;> simp only [LiftQ] at hl ⊢ <;> first | exact hl | (obtain ⟨f, h1, h2⟩ := hl; exact ⟨f, h1, h2.mono (hq _)⟩)

theorem withN_mono {K K' : Fr → Hp → Prop} {Q : Ex → Fr → Hp → Prop} (hk : ∀ f h, K f h → K' f h) : ∀ e f h, withN K Q e f h → withN K' Q e f h := by
  intro e f h hq
  cases e with
  | normal => exact hk f h hq
  | ret => exact hq
  | exit i => exact hq

theorem withN_normal (K : Fr → Hp → Prop) (Q : Ex → Fr → Hp → Prop) : ∀ e f h, withN (Q .normal) Q e f h → Q e f h := by
  intro e f h hq; cases e <;> exact hq

/-- A piece behind which another one stands. -/
theorem thn_lift {b : Code} {K : Fr → Hp → Prop} {Q : Ex → Fr → Hp → Prop} (hb : ∀ f a h, Agree N G0 f a → K f h → VW P rr b (LiftQ N G0 KP Q) a h) : ∀ e a h, LiftQ N G0 KP (withN K Q) e a h → Thn (VW P rr b (LiftQ N G0 KP Q)) (LiftQ N G0 KP Q) e a h := by
  intro e a h hl
  cases e with
  | normal => obtain ⟨f, h1, h2⟩ := hl; exact Wk.use h2 h1 (fun f h a hk ha => hb f a h ha hk)
  | _ => exact hl

/-- A piece that another one follows. -/
theorem sq_sound {n : Nat} {s r : S} {C : Fr → Hp → Prop} {Q : Ex → Fr → Hp → Prop} (hC : ∀ {f h}, wp P KP r Q f h → C f h) (hc : ∀ {Q : Ex → Fr → Hp → Prop} {f : Fr} {a : VAct} {h : Hp}, Agree N G0 f a → wp P KP s Q f h → VW P rr c (LiftQ N G0 KP (withN (fun f h => wp P KP .done Q f h) Q)) a h) {f : Fr} {a : VAct} {h : Hp} (ha : Agree N G0 f a) (hw : wp P KP (sqS n s r) Q f h) : VW P rr c (LiftQ N G0 KP (withN C Q)) a h := by
  have dn : ∀ (Q : Ex → Fr → Hp → Prop) e a h, LiftQ N G0 KP (withN (fun f h => wp P KP .done Q f h) Q) e a h → LiftQ N G0 KP Q e a h := by
    intro Q e a h hl; cases e <;> exact hl
  unfold sqS at hw
  split at hw
  · refine (hc ha hw).mono ?_
    intro e a h hl
    exact LiftQ.mono (withN_mono fun f h hk => hC hk) e a h hl
  · cases hw with
    | dup hA => exact ((hc ha hA).mono (dn _)).mono (LiftQ.mono (withN_mono fun f h hk => hC hk))
    | join I hA hI =>
      refine ((hc ha hA).mono (dn _)).mono ?_
      intro e a h hl
      cases e with
      | normal =>
        obtain ⟨f, h1, h2⟩ := hl
        exact ⟨f, h1, Wk.flat (Wk.mono h2 fun f h hk => Wk.mono hk fun f h hi => hC (hI f h hi))⟩
      | ret => exact hl
      | exit i => exact hl
      | panic ch => exact hl
      | _ => exact hl

end
end Go.XW
