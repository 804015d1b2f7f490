/- The conditions are enough: code, loops over functions too. -/
import Derived.Test.YtpiicncihccheaaGreatDoorXE
import Derived.RangeFuncRecord
import Derived.RangeFuncOwn
namespace Go.XW
open Go.RowKit

theorem Wk.seen {I : Fr → Hp → Prop} {f : Fr} {h : Hp} {N : Nat} {G0 : Fro} {base : World} {w : World} {act : Act} {Z : Fro → Prop} (hw : Wk I f h) : ∀ {G : Fro} {a : VAct}, Agree N G0 f a → Sim base G h w → RepAct G a act → (∀ G' f h a, FLe G G' → I f h → Agree N G0 f a → Sim base G' h w → RepAct G' a act → Z G') → ∃ G', FLe G G' ∧ Z G' := by
  induction hw with
  | now f h hi => intro G a ha hs hact hk; exact ⟨G, FLe.refl G, hk G f h a (FLe.refl G) hi ha hs hact⟩
  | gen R f f2 h h2 hs1 hf hw ih =>
    intro G a ha hs hact hk
    obtain ⟨F', g1, g2, g3⟩ := hs1 base G w hs
    obtain ⟨g4, g5⟩ := Agree.gen g1 ha g3 hf hact
    obtain ⟨G', k1, k2⟩ := ih g4 g2 g5 (fun G' f h a hG => hk G' f h a (g1.trans hG))
    exact ⟨G', g1.trans k1, k2⟩
  | sub f f2 h hs1 hw ih =>
    intro G a ha hs hact hk
    obtain ⟨h1, h2⟩ := ha.sub hs1
    exact ih h1 hs ⟨hact.tmps.weak h2, hact.defers, hact.start, hact.marks⟩ hk
  | less f h h2 hl hw ih => intro G a ha hs hact hk; exact ih ha (hs.less hl) hact hk
  | perm f h h2 hl hw ih => intro G a ha hs hact hk; exact ih ha (hs.perm hl) hact hk
  | name sz f h hw ih =>
    intro G a ha hs hact hk
    obtain ⟨F', k, f1, f2⟩ := Sim.fresh_name (h1 := []) hs sz
    obtain ⟨G', g1, g2⟩ := ih k ha f2 (hact.mono f1) (fun G' f h a hG => hk G' f h a (f1.trans hG))
    exact ⟨G', f1.trans g1, g2⟩
  | fz n u v f h1 h2 k sz es hu hv hw ih =>
    intro G a ha hs hact hk
    obtain ⟨F', g1, g2, g3⟩ := hs.freeze
    have hlt : n < N := by
      have := (List.getElem?_eq_some_iff.1 (ha.get n u hu)).1
      rwa [ha.len] at this
    have ha2 : Agree N G0 ((n, v) :: f) (a.put (some n) v) := ha.put (d := some n) (by simpa [dstOk, Nat.blt] using (show n + 1 ≤ N from hlt)) v
    have hact2 : RepAct F' (a.put (some n) v) act := by
      obtain ⟨x, hx1, hx2⟩ := hact.tmps.get (ha.get n u hu)
      have h3 := g3 hv hx2
      refine ⟨?_, hact.defers, hact.start.trans g1, hact.marks.mono g1⟩
      have h4 := (hact.tmps.mono g1).set h3 n
      have h5 : act.tmps.toList.set n x = act.tmps.toList := by
        apply List.ext_getElem?
        intro i
        by_cases hi : n = i
        · subst hi
          rw [List.getElem?_set]
          have : n < act.tmps.toList.length := (List.getElem?_eq_some_iff.1 hx1).1
          simp only [if_true, this, hx1]
        · rw [List.getElem?_set_ne hi]
      rw [h5] at h4
      exact h4
    obtain ⟨G', k1, k2⟩ := ih ha2 g2 hact2 (fun G' f h a hG => hk G' f h a (g1.trans hG))
    exact ⟨G', g1.trans k1, k2⟩



theorem look_set {tmps : Array Value} {F : Fro} {f : Fr} (h : RepF F f tmps) {p : Nat} (hp : p < tmps.size) {x : V} {u : Value} (hx : Rep F x u) : RepF F ((p, x) :: f) (tmps.setIfInBounds p u) := by
  intro n v hn
  rw [look_cons] at hn
  split at hn
  · rename_i he
    subst he
    cases hn
    exact ⟨u, by simp [hp], hx⟩
  · rename_i hne
    obtain ⟨u', h1, h2⟩ := h n v hn
    exact ⟨u', by rw [Array.getElem?_setIfInBounds_ne (fun e => hne e.symm)]; exact h1, h2⟩
theorem setPs_rep {F : Fro} : ∀ (ps : List Nat) (xs : List V) (us : List Value) (f : Fr) (tmps : Array Value), RepF F f tmps → RepL F xs us → xs.length = ps.length → (ps.all (Nat.blt · tmps.size)) = true →
    RepF F (setPs ps xs f) ((ps.zip us).foldl (fun tmps (t, a) => tmps.setIfInBounds t a) tmps) ∧ ((ps.zip us).foldl (fun tmps (t, a) => tmps.setIfInBounds t a) tmps).size = tmps.size
  | [], [], us, f, tmps, h, hx, _, _ => by simpa [setPs] using h
  | [], _ :: _, _, _, _, _, _, hl, _ => by simp at hl
  | _ :: _, [], _, _, _, _, _, hl, _ => by simp at hl
  | p :: ps, x :: xs, us, f, tmps, h, hx, hl, hp => by
    cases hx with
    | cons _ u _ us h1 h2 =>
      simp only [List.all_cons, Bool.and_eq_true] at hp
      have hlt : p < tmps.size := Nat.le_of_ble_eq_true hp.1
      have ih := setPs_rep ps xs us ((p, x) :: f) (tmps.setIfInBounds p u) (look_set h hlt h1) h2 (by simpa using hl) (by simpa using hp.2)
      simpa [setPs] using ih
theorem zip_fold {ps : Array Nat} {us : Array Value} (init : Array Value) : (ps.zip us).foldl (fun tmps (x : Nat × Value) => tmps.setIfInBounds x.1 x.2) init = (ps.toList.zip us.toList).foldl (fun tmps (x : Nat × Value) => tmps.setIfInBounds x.1 x.2) init := by
  rw [← Array.foldl_toList, Array.toList_zip]
/-- Some of a frame's temporaries seen: as a whole frame. -/
theorem repF_act {N : Nat} {F : Fro} {f : Fr} {tmps : Array Value} (h : RepF F f tmps) (hN : tmps.size = N) :
    Agree N F f (cutA N f ⟨[], [], F⟩) ∧ RepAct F (cutA N f ⟨[], [], F⟩) { tmps := tmps, defers := [] } := by
  refine ⟨⟨fun n v hn => ?_, rfl, by simp [cutA]⟩, ?_, rfl, FLe.refl F, Marks.nil F F⟩
  · obtain ⟨u, h1, _⟩ := h n v hn
    have hlt : n < N := by have := (Array.getElem?_eq_some_iff.1 h1).1; omega
    simp [cutA, hlt, hn]
  · refine RepL.of_get2 (by simp [cutA, hN]) fun i x u hx hu => ?_
    have hlt : i < N := by
      have := (List.getElem?_eq_some_iff.1 hx).1
      simpa [cutA] using this
    simp [cutA, hlt] at hx
    subst hx
    cases hl2 : look i f with
    | none => exact .any _
    | some v =>
      obtain ⟨u1, h1, h2⟩ := h i v hl2
      have : tmps[i]? = some u := by simpa using hu
      rw [h1] at this
      cases this
      exact h2
theorem agree_repF {N : Nat} {G0 F : Fro} {f : Fr} {a : VAct} {act : Act} (ha : Agree N G0 f a) (hact : RepAct F a act) : RepF F f act.tmps := by
  intro n v hn
  obtain ⟨u, h1, h2⟩ := hact.tmps.get (ha.get n v hn)
  exact ⟨u, by simpa using h1, h2⟩

/-- The record of a loop becomes another one. -/
theorem Sim.putlp {base : World} {F : Fro} {h : Hp} {w : World} {k N g tot : Nat} {f : Fr} {r r' : Loop} {tmps : Array Value} (hs : Sim base F ((k, .lp N f r) :: h) w) (hk : F.r k = some (some (g, tot)))
    (hg : w.heap[g]? = some (.loop { r with tmps := tmps })) (hN : tmps.size = N) (hf : RepF F f tmps) : Sim base F ((k, .lp N f r') :: h) (w.putObj g (.loop { r' with tmps := tmps })) := by
  obtain ⟨s1, s2, s3⟩ := hs.out (h1 := [])
  obtain ⟨g', tot', tmps', a1, a2, a3, a4, a5⟩ := s3
  rw [hk] at a1
  cases a1
  have hlt : g < w.heap.size := (Array.getElem?_eq_some_iff.1 hg).1
  have s4 : Sim base F h (w.putObj g (.loop { r' with tmps := tmps })) := by
    refine s1.grown (grownBy_putObj' _ _ _) (fun g' e => ?_) (fun g' e => ?_)
    · cases e
      refine ⟨(hs.adr _ _ _ hk).1, a2, fun k2 tot2 c hr hm => ?_⟩
      have := hs.inj _ _ _ _ _ hr hk
      subst this
      exact s2 c hm
    · cases e
      intro k2 tot2 T hr hn
      obtain ⟨_, hsh, _⟩ := hs.typ _ _ _ _ hr hn
      unfold World.shape? at hsh
      rw [hg] at hsh
      cases hsh
  exact Sim.cons s4 s2 ⟨g, tot, tmps, hk, a2, World.putObj_heap_same hlt, hN, hf⟩
theorem Sim.dropObj {base : World} {F : Fro} {h : Hp} {w : World} {k N g tot : Nat} {f : Fr} {r : Loop} (hs : Sim base F ((k, .lp N f r) :: h) w) (hk : F.r k = some (some (g, tot))) (o : Obj) : Sim base F h (w.putObj g o) := by
  obtain ⟨s1, s2, s3⟩ := hs.out (h1 := [])
  obtain ⟨g', tot', tmps', a1, a2, a3, a4, a5⟩ := s3
  rw [hk] at a1
  cases a1
  refine s1.grown (grownBy_putObj' _ _ _) (fun g' e => ?_) (fun g' e => ?_)
  · cases e
    refine ⟨(hs.adr _ _ _ hk).1, a2, fun k2 tot2 c hr hm => ?_⟩
    have := hs.inj _ _ _ _ _ hr hk
    subst this
    exact s2 c hm
  · cases e
    intro k2 tot2 T hr hn
    obtain ⟨_, hsh, _⟩ := hs.typ _ _ _ _ hr hn
    unfold World.shape? at hsh
    rw [a3] at hsh
    cases hsh

def jumpOf : Ex → Option Code
  | .normal => none
  | .ret => some .ret
  | .exit i => some (.exit i)

/-- The record between the rounds, or when one has left; in a round. -/
def lpO (N : Nat) (f : Fr) (r : Loop) (e : Ex) : HO := .lp N f { r with state := if isN e then .ready else .done, pending := jumpOf e }
def lbO (N : Nat) (f : Fr) (r : Loop) : HO := .lp N f { r with state := .busy, pending := none }
section
variable {P : Program} {N : Nat} {KP : List PanicEntry → Hp → Prop}

/-- A call of yield, out of what a round's code does. -/
theorem yield_sound {ca cb : Code} {sa sb : S} {ps : Array Nat} (hp : ps.toList.all (Nat.blt · N) = true) (hKP : ∀ c h, ¬ KP c h)
    (iha : ∀ {G0 : Fro} {l : Nat} {Q : Ex → Fr → Hp → Prop} {f : Fr} {a : VAct} {h : Hp}, Agree N G0 f a → wp P KP sa Q f h → VW P (some l) ca (LiftQ N G0 KP Q) a h)
    (ihb : ∀ {G0 : Fro} {l : Nat} {Q : Ex → Fr → Hp → Prop} {f : Fr} {a : VAct} {h : Hp}, Agree N G0 f a → wp P KP sb Q f h → VW P (some l) cb (LiftQ N G0 KP Q) a h)
    {f : Fr} {r0 : Loop} (hr1 : r0.params = ps) (hr2 : r0.assign = ca) (hr3 : r0.body = cb) {k : Nat} {xs : List V} {h1 : Hp} {R : V → Hp → Prop} (hlen : xs.length = ps.toList.length)
    (hW : wp P KP sa (fun e f1 h1 => RdA e (Wk (fun f1 h1 => Behind k (lpO N f r0 .normal) (fun h2 => wp P KP sb (fun e f2 h2 => Wk (fun _ h2 => Behind k (lbO N f r0) ((fun e h2 => R (vbool (isN e)) ((k, lpO N f r0 e) :: h2)) e) h2) f2 h2) f1 ((k, lbO N f r0) :: h2)) h1) f1 h1)) (setPs ps.toList xs f) ((k, lpO N f r0 .normal) :: h1)) :
    YCalls P k xs ((k, lpO N f r0 .normal) :: h1) R := by
  intro base F args' w g tot hs hxs hk
  obtain ⟨g2, tot2, tmps, b1, b2, b3, b4, b5⟩ := hs.own k _ (List.mem_cons_self ..)
  rw [hk] at b1
  cases b1
  have hxl := hxs.length
  have hsize : args'.size = ps.size := by
    have h1 : args'.toList.length = args'.size := by simp
    have h2 : ps.toList.length = ps.size := by simp
    omega
  rw [run_yield b3 (by simpa [hr1] using hsize)]
  show RoundIn (Fw none) 0 P g r0.fn _ r0.assign r0.body w _
  obtain ⟨c1, c2⟩ := setPs_rep ps.toList xs args'.toList f tmps b5 hxs hlen (by rw [b4]; exact hp)
  have hT : (Array.foldl (fun tmps x => tmps.setIfInBounds x.1 x.2) tmps (r0.params.zip args')) = (ps.toList.zip args'.toList).foldl (fun tmps x => tmps.setIfInBounds x.1 x.2) tmps := by rw [hr1]; exact zip_fold tmps
  dsimp only
  rw [hr2, hr3]
  refine roundIn_of_wpIn trivial ?_
  rw [hT]
  obtain ⟨d1, d2⟩ := repF_act (N := N) c1 (c2.trans b4)
  have hA := iha (l := g) d1 hW base F _ w hs d2
  refine wpIn_mono hA ?_
  rintro e act1 w1 ⟨F1, h2, hF1, hs1, a1, hact1, hl⟩
  cases e with
  | normal =>
    obtain ⟨f1, e1, e2⟩ := hl
    have e2 : Wk (fun f1 h1 => Behind k _ (fun h2 => wp P KP sb _ f1 ((k, _) :: h2)) h1) f1 h2 := Wk.flat e2
    obtain ⟨_, _, hz⟩ := Wk.seen (Z := fun _ => ∃ w₂, (Instr.beginRound g).run P w1 = .ok () w₂ ∧ cb.wpIn ((Fw none).inRound g) 0 P (roundPost P g (Back base F R fun _ _ => False)) act1 w₂) e2 e1 hs1 hact1 (fun F2 f2 h2 a2 hF2 hi ha2 hs2 hact2 => by
      obtain ⟨h3, hperm, hwb⟩ := hi
      have hs3 := hs2.perm hperm.symm
      have hk2 : F2.r k = some (some (g, tot)) := hF2.2 _ _ (hF1.2 _ _ hk)
      obtain ⟨g3, tot3, tmps3, m1, m2, m3, m4, m5⟩ := hs3.own k _ (List.mem_cons_self ..)
      rw [hk2] at m1
      cases m1
      refine ⟨_, run_beginRound m3 rfl, ?_⟩
      have hs4 : Sim base F2 ((k, lbO N f r0) :: h3) _ := Sim.putlp (r' := { r0 with state := .busy, pending := none }) hs3 hk2 m3 m4 m5
      have hB := ihb (l := g) ha2 hwb base F2 act1 _ hs4 hact2
      refine wpIn_mono hB ?_
      rintro e3 act3 w3 ⟨F3, h5, hF3, hs5, a3, hact3, hl3⟩
      -- what a round's end comes to
      have fin : ∀ (e : Ex), (∃ f', Agree N F f' a3 ∧ Wk (fun f2 h2 => Wk (fun _ h2 => Behind k (lbO N f r0) (fun h2 => R (vbool (isN e)) ((k, lpO N f r0 e) :: h2)) h2) f2 h2) f' h5) →
          ∃ v w', (Instr.endRound g (jumpOf e)).run P w3 = .ok v w' ∧ Back base F R (fun _ _ => False) (.returned v) w' := by
        rintro e ⟨f', q1, q2⟩
        have q2 : Wk (fun _ h2 => Behind k (lbO N f r0) (fun h2 => R (vbool (isN e)) ((k, lpO N f r0 e) :: h2)) h2) f' h5 := Wk.flat q2
        obtain ⟨_, _, hz⟩ := Wk.seen (Z := fun _ => ∃ v w', (Instr.endRound g (jumpOf e)).run P w3 = .ok v w' ∧ Back base F R (fun _ _ => False) (.returned v) w') q2 q1 hs5 hact3 (fun F4 f4 h6 a4 hF4 hi4 ha4 hs6 hact4 => by
          obtain ⟨h7, hperm4, hR⟩ := hi4
          have hs7 := hs6.perm hperm4.symm
          have hk4 : F4.r k = some (some (g, tot)) := hF4.2 _ _ (hF3.2 _ _ hk2)
          obtain ⟨g5, tot5, tmps5, n1, n2, n3, n4, n5⟩ := hs7.own k _ (List.mem_cons_self ..)
          rw [hk4] at n1
          cases n1
          refine ⟨_, _, run_endRound (jumpOf e) n3, F4, (k, lpO N f r0 e) :: h7, hF1.trans (hF2.trans (hF3.trans hF4)), ?_, vbool (isN e), ?_, hR⟩
          · have := Sim.putlp (r' := { r0 with state := if isN e then .ready else .done, pending := jumpOf e }) hs7 hk4 n3 n4 n5
            cases e <;> exact this
          · cases e <;> exact .v _)
        exact hz
      cases e3 with
      | normal => exact fin .normal hl3
      | ret => exact fin .ret hl3
      | exit i => exact fin (.exit i) hl3
      | panic ch => exact (hKP _ _ hl3.2).elim
      | goto l => exact hl3.elim
      | outgrown => exact hl3.elim)
    exact hz
  | ret => obtain ⟨f1, _, e2⟩ := hl; exact (Wk.ne e2 fun _ _ hx => hx).elim
  | exit i => obtain ⟨f1, _, e2⟩ := hl; exact (Wk.ne e2 fun _ _ hx => hx).elim
  | panic ch => exact (hKP _ _ hl.2).elim
  | goto l => exact hl.elim
  | outgrown => exact hl.elim

/-- The statement 'for .. := range f'. -/
theorem rng_sound {ca cb : Code} {sa sb : S} {ps : Array Nat} {g : Operand} (hp : ps.toList.all (Nat.blt · N) = true)
    (iha : ∀ {G0 : Fro} {l : Nat} {Q : Ex → Fr → Hp → Prop} {f : Fr} {a : VAct} {h : Hp}, Agree N G0 f a → wp P KP sa Q f h → VW P (some l) ca (LiftQ N G0 KP Q) a h)
    (ihb : ∀ {G0 : Fro} {l : Nat} {Q : Ex → Fr → Hp → Prop} {f : Fr} {a : VAct} {h : Hp}, Agree N G0 f a → wp P KP sb Q f h → VW P (some l) cb (LiftQ N G0 KP Q) a h)
    {G0 : Fro} {Q : Ex → Fr → Hp → Prop} {f : Fr} {a : VAct} {h : Hp} (ha : Agree N G0 f a) (hw : wp P KP (.rng g ps.toList sa sb) Q f h) : VW P none (.rangeFunc g ps ca cb) (LiftQ N G0 KP Q) a h := by
  intro base F act w hs hact
  obtain ⟨vg, hg, hw⟩ := on_get hw
  have hvg : Rep F vg (act.eval g) := by have := hact.eval g; rwa [ha.fits _ _ hg] at this
  cases hw with
  | mk hKP hw =>
  refine wpIn_rangeFunc (fun fn _ => ?_)
  have hro : (Fw none).round = none := rfl
  rw [hro]
  obtain ⟨F1, hF1, hf1, hr1, hs1⟩ := Sim.alloc_fro2 hs (.deferred (some []))
  have hold : ∀ r o, F.f r = some o → r ≠ w.heap.size := fun r o hr he => by
    have := (Array.getElem?_eq_some_iff.1 (hs.fro r o hr)).1; omega
  have hnn : ∀ (n : Nat) k tot, F1.r k = some (some (n, tot)) → n < w.heap.size := fun n k tot hk => by
    rw [hr1] at hk; exact (hs.adr _ _ _ hk).2
  obtain ⟨kd, q1, q2, q3, q4, hs2⟩ := hs1.named (some (w.heap.size, 0)) (fun g tot e => by
    cases e
    refine ⟨hs.below.size, by simp, fun k tot hk => ?_⟩
    have := hnn _ _ _ hk; omega)
  generalize hr0 : ({ state := .ready, pending := none, fn, tmps := act.tmps, params := ps, assign := ca, body := cb, defers := w.heap.size } : Loop) = r0
  have he := run_enterLoop_outer (P := P) (w := w) fn act.tmps ps ca cb
  rw [hr0] at he
  have hs3 := hs2.grown_none (World.grownBy_alloc (w.alloc (.deferred (some []))) (.loop r0) none)
  have hrec : ((w.alloc (.deferred (some []))).alloc (.loop r0)).heap[w.heap.size + 1]? = some (.loop r0) := by
    have := World.alloc_heap_new (w.alloc (.deferred (some []))) (.loop r0)
    simpa using this
  have hfree : (F1.name kd (some (w.heap.size, 0))).f (w.heap.size + 1) = none := hs2.fro_lt (by simp)
  generalize hF2 : F1.name kd (some (w.heap.size, 0)) = F2 at *
  have hF02 : FLe F F2 := hF1.trans q4
  have hd2 : F2.f w.heap.size = some (.deferred (some [])) := q4.1 _ _ hf1
  have hnn2 : ∀ (n : Nat) k tot, F2.r k = some (some (n, tot)) → n < w.heap.size + 1 := fun n k tot hk => by
    have := (hs2.adr _ _ _ hk).2
    simpa using this
  generalize hw2 : (w.alloc (.deferred (some []))).alloc (.loop r0) = w2 at *
  have hsz2 : w2.heap.size = w.heap.size + 2 := by subst hw2; simp
  obtain ⟨k, k1, k2, k3, k4, hs4⟩ := hs3.named (some (w.heap.size + 1, 0)) (fun g tot e => by
    cases e
    refine ⟨Nat.le_succ_of_le hs.below.size, by omega, fun k tot hk => ?_⟩
    have := hnn2 _ _ _ hk; omega)
  have hfree3 : (F2.name k (some (w.heap.size + 1, 0))).f (w.heap.size + 1) = none := hfree
  generalize F2.name k (some (w.heap.size + 1, 0)) = F3 at *
  have hF03 : FLe F F3 := hF02.trans k4
  have hNN : act.tmps.size = N := by
    have h1 := hact.tmps.length
    rw [ha.len] at h1
    simpa using h1.symm
  have hr0t : r0.tmps = act.tmps := by rw [← hr0]
  have hrf : RepF F3 f act.tmps := (agree_repF ha hact).mono hF03
  have hs5 : Sim base F3 ((k, lpO N f r0 .normal) :: h) w2 := by
    refine Sim.cons hs4 k2 ⟨w.heap.size + 1, 0, act.tmps, k3, hfree3, ?_, hNN, hrf⟩
    rw [hrec, ← hr0]; rfl
  have hcall := hw k (lpO N f r0) (lbO N f r0) (fun xs h1 R hlen hW => yield_sound hp hKP iha ihb (by rw [← hr0]) (by rw [← hr0]) (by rw [← hr0]) hlen hW)
  have hact2 : ∀ {F'}, FLe F3 F' → RepAct F' { a with defers := [{ target := .collected w.heap.size, args := #[] }] ++ a.defers } { act with defers := [{ target := .collected w.heap.size, args := #[] }] ++ act.defers } := fun hF' => by
    refine ⟨hact.tmps.mono (hF03.trans hF'), by simp [hact.defers], hact.start.trans (hF03.trans hF'), ?_, ?_⟩
    · refine List.nodup_cons.2 ⟨fun hm => ?_, hact.marks.1⟩
      obtain ⟨r, k', tot, e1, _, e3, _⟩ := hact.marks.2 _ hm
      cases e1
      exact hold _ _ e3 rfl
    · intro d hd
      rcases List.mem_cons.1 hd with rfl | hd
      · refine ⟨w.heap.size, kd, 0, rfl, ?_, hF'.1 _ _ (k4.1 _ _ hd2), hF'.2 _ _ (k4.2 _ _ q3)⟩
        cases hst : a.start.f w.heap.size with
        | none => rfl
        | some o => exact absurd rfl (hold _ _ (hact.start.1 _ _ hst))
      · exact (hact.marks.mono (hF03.trans hF')).2 d hd
  have hpost : ∀ e w3, Back base F3 (fun _ h' => ∃ e, Behind k (lpO N f r0 e) (fun h2 => Q e f h2) h') (fun _ _ => False) e w3 →
      rangePost (Fw none) 0 P (w.heap.size + 1) (Lift base F (LiftQ N G0 KP Q)) { act with defers := [{ target := .collected w.heap.size, args := #[] }] ++ act.defers } e w3 := by
    rintro (u | ch | _) w3 hb
    · obtain ⟨F', h', hF', hs', v, hr, e, h2, hperm, hK⟩ := hb
      have hs6 := hs'.perm hperm.symm
      have hk' : F'.r k = some (some (w.heap.size + 1, 0)) := hF'.2 _ _ k3
      obtain ⟨g', tot, tmps, a1, a2, a3, a4, a5⟩ := hs6.own k _ (List.mem_cons_self ..)
      rw [hk'] at a1
      cases a1
      have hs7 := fun o => hs6.dropObj hk' o
      refine ⟨_, _, run_endLoop a3 (by cases e <;> simp [isN]), ?_⟩
      have hag : Agree N G0 f { a with defers := [{ target := .collected w.heap.size, args := #[] }] ++ a.defers } := ⟨ha.get, ha.start, ha.len⟩
      cases e with
      | normal => exact ⟨F', h2, hF03.trans hF', hs7 _, _, hact2 hF', f, hag, .now _ _ hK⟩
      | ret => exact wpIn_ret ⟨F', h2, hF03.trans hF', hs7 _, _, hact2 hF', f, hag, .now _ _ hK⟩
      | exit i => exact wpIn_exit ⟨F', h2, hF03.trans hF', hs7 _, _, hact2 hF', f, hag, .now _ _ hK⟩
    · obtain ⟨_, _, _, _, hx⟩ := hb; exact hx.elim
    · exact hb.elim
  unfold callF at hcall
  split at hcall
  · rename_i fg A B
    generalize hu : act.eval g = u at hvg
    cases hvg with
    | fn _ _ _ a' b' hA hB =>
      refine ⟨_, _, w2, { target := .fn (.func fg) b', args := a' ++ #[.func (.yield (w.heap.size + 1)) #[] #[]] }, w2, fg, a' ++ #[.func (.yield (w.heap.size + 1)) #[] #[]] ++ b', w2, he, ?_, fun _ _ => trivial, ?_, fun hx => by simp [Fw, Fence.wide] at hx, ?_⟩
      · simp only [resolve, hu, Deferred.ofValue]
        simp [Act.eval]
      · simp only [invoke, run_callFunc hcall.1]
      · refine calls_in ((hcall.2 base F3 _ w2 hs5 ?_).mono hpost)
        have := ((hA.mono hF03).append (RepL.cons _ _ _ _ (Rep.yld k _ _ k3) .nil)).append (hB.mono hF03)
        simpa using this
  · rename_i fg A B
    have hu := hvg.lit
    refine ⟨_, _, w2, { target := .fn (.func fg) B, args := A ++ #[.func (.yield (w.heap.size + 1)) #[] #[]] }, w2, fg, A ++ #[.func (.yield (w.heap.size + 1)) #[] #[]] ++ B, w2, he, ?_, fun _ _ => trivial, ?_, fun hx => by simp [Fw, Fence.wide] at hx, ?_⟩
    · simp only [resolve, hu, Deferred.ofValue]
      simp [Act.eval]
    · simp only [invoke, run_callFunc hcall.1]
    · refine calls_in ((hcall.2 base F3 _ w2 hs5 ?_).mono hpost)
      have := ((RepL.lits A.toList).append (RepL.cons _ _ _ _ (Rep.yld k _ _ k3) .nil)).append (RepL.lits (F := F3) B.toList)
      simpa using this
  · exact hcall.elim
end

section
variable {P : Program} {N : Nat} {KP : List PanicEntry → Hp → Prop}
theorem comp_sound : ∀ (c : Code) {rg : Bool} {rr : Option Nat} {r s : S}, (rg = true → rr = none) → comp P N rg c r = some s → ∀ {G0 : Fro} {Q : Ex → Fr → Hp → Prop} {f : Fr} {a : VAct} {h : Hp}, Agree N G0 f a → wp P KP s Q f h → VW P rr c (LiftQ N G0 KP (withN (fun f h => wp P KP r Q f h) Q)) a h := by
  intro c
  induction c with
  | skip => intro rg rr r s hrg hc G0 Q f a h ha hw; simp [comp] at hc; subst hc; exact vw_skip ⟨f, ha, .now _ _ hw⟩
  | region id ops draw =>
    intro rg rr r s hrg hc G0 Q f a h ha hw
    unfold comp at hc
    split at hc
    · rename_i l hl
      cases hc
      cases hw with
      | mk hw => exact Wk.use hw ha fun f h a hk ha => reg_sound hl ha hk
    · cases hc
  | seq x y ihx ihy =>
    intro rg rr r s hrg hc G0 Q f a h ha hw
    unfold comp at hc
    split at hc
    · rename_i r' hr
      split at hc
      · split at hc
        · rename_i a' hx
          cases hc
          refine vw_seq (VW.mono (sq_sound (c := x) (C := fun f h => wp P KP r' Q f h) (fun h => h) (fun {Q f a h} ha hw => ihx hrg hx ha hw) ha hw) ?_)
          intro e a' h' hl
          refine thn_lift (b := y) (K := fun f h => wp P KP r' Q f h) (Q := withN (fun f h => wp P KP r Q f h) Q) (fun f a h ha hw => ihy hrg hr ha hw) e a' h' ?_
          cases e <;> exact hl
        · cases hc
      · refine vw_seq ((ihx hrg hc ha hw).mono ?_)
        intro e a' h' hl
        have hl2 : LiftQ N G0 KP (withN (fun f h => wp P KP r' Q f h) (withN (fun f h => wp P KP r Q f h) Q)) e a' h' := by
          cases e <;> exact hl
        refine thn_lift (b := y) (K := fun f h => wp P KP r' Q f h) (fun f a h ha hw => ihy hrg hr ha hw) e a' h' hl2
    · cases hc
  | cond o x y ihx ihy =>
    intro rg rr r s hrg hc G0 Q f a h ha hw
    unfold comp at hc
    split at hc
    · rename_i x' y' hx hy
      cases hc
      refine sq_sound (n := 0) (s := .ite o x' y') (c := .cond o x y) (C := fun f h => wp P KP r Q f h) (fun h => h) ?_ ha hw
      intro Q f a h ha hw
      have hw : boolK (ev f o) fun t => Br t (wp P KP x' Q f h) (wp P KP y' Q f h) := hw
      unfold boolK at hw
      split at hw
      · rename_i b he
        have hb := ha.fits _ _ he
        exact vw_cond hb (fun h1 => ihx hrg hx ha (hw.t h1)) (fun h1 => ihy hrg hy ha (hw.f h1))
      · exact hw.elim
    · cases hc
  | block id x ih =>
    intro rg rr r s hrg hc G0 Q f a h ha hw
    unfold comp at hc
    split at hc
    · rename_i x' hx
      cases hc
      refine sq_sound (n := firstId x) (s := .block id x') (c := .block id x) (C := fun f h => wp P KP r Q f h) (fun h => h) ?_ ha hw
      intro Q f a h ha hw
      have hw : wp P KP x' (blkQ id (Q .normal) Q) f h := hw
      refine vw_block ((ih hrg hx ha hw).mono ?_)
      intro e a' h' hl
      cases e with
      | normal => exact hl
      | ret => exact hl
      | exit i =>
        obtain ⟨f, h1, h2⟩ := hl
        simp only [InBlock]
        have h2 : Wk (bif Nat.beq i id then Q .normal else Q (.exit i)) f h' := h2
        split
        · rename_i he
          subst he
          rw [Nat.beq_refl] at h2
          exact ⟨f, h1, h2⟩
        · rename_i hne
          have : Nat.beq i id = false := by
            cases hb : Nat.beq i id with
            | false => rfl
            | true => exact absurd (Nat.eq_of_beq_eq_true hb) hne
          rw [this] at h2
          exact ⟨f, h1, h2⟩
      | panic ch => exact hl
      | _ => exact hl
    · cases hc
  | loop x ih =>
    intro rg rr r s hrg hc G0 Q f a h ha hw
    unfold comp at hc
    split at hc
    · rename_i x' hx
      cases hc
      cases hw with
      | mk I μ h0 hround =>
        classical
        let M : VAct → Hp → Nat → Prop := fun a h n => ∃ f, Agree N G0 f a ∧ Wk (fun f h => ∃ x, I x f h ∧ μ x ≤ n) f h
        let ν : VAct → Hp → Nat := fun a h => if hj : ∃ n, M a h n then (exists_least hj).choose else 0
        have hν : ∀ a h (hj : ∃ n, M a h n), M a h (ν a h) ∧ ∀ m, M a h m → ν a h ≤ m := by
          intro a h hj
          have : ν a h = (exists_least hj).choose := dif_pos hj
          rw [this]
          exact (exists_least hj).choose_spec
        refine Wk.use (I := fun f h => ∃ x, I x f h) h0 ha ?_
        rintro f0 h0 a0 ⟨x0, hi0⟩ ha0
        refine vw_loop (fun a h => ∃ n, M a h n) ν ⟨μ x0, f0, ha0, .now _ _ ⟨x0, hi0, Nat.le_refl _⟩⟩ ?_
        intro a1 h1 hj
        obtain ⟨⟨f1, ha1, hw1⟩, hleast⟩ := hν a1 h1 hj
        refine Wk.use hw1 ha1 ?_
        rintro f2 h2 a2 ⟨x2, hi2, hle⟩ ha2
        refine (ih hrg hx ha2 (hround x2 f2 h2 hi2)).mono ?_
        intro e a' h' hl
        cases e with
        | normal =>
          obtain ⟨f3, k1, k2⟩ := hl
          have k2 : Wk (fun f h => ∃ y, I y f h ∧ μ y < μ x2) f3 h' := Wk.flat k2
          have hpos : 0 < ν a1 h1 := by
            by_cases hz : 0 < μ x2
            · omega
            · exfalso
              exact Wk.ne k2 (fun f h ⟨y, _, hy⟩ => by omega)
          have hM : M a' h' (ν a1 h1 - 1) := ⟨f3, k1, Wk.mono k2 fun f h ⟨y, hy1, hy2⟩ => ⟨y, hy1, by omega⟩⟩
          have hj' : ∃ n, M a' h' n := ⟨_, hM⟩
          have := (hν a' h' hj').2 _ hM
          exact ⟨hj', by omega⟩
        | ret => exact hl
        | exit i => exact hl
        | panic ch => exact hl
        | _ => exact hl
    · cases hc
  | exit id =>
    intro rg rr r s hrg hc G0 Q f a h ha hw
    simp [comp] at hc; subst hc
    exact vw_exit ⟨f, ha, .now _ _ hw⟩
  | ret =>
    intro rg rr r s hrg hc G0 Q f a h ha hw
    simp [comp] at hc; subst hc
    exact vw_ret ⟨f, ha, .now _ _ hw⟩
  | rangeFunc g ps x y ihx ihy =>
    intro rg rr r s hrg hc G0 Q f a h ha hw
    unfold comp at hc
    split at hc
    · rename_i hp
      simp only [Bool.and_eq_true] at hp
      obtain ⟨hp1, hp2⟩ := hp
      have := hrg hp1
      subst this
      split at hc
      · rename_i x' y' hx hy
        cases hc
        refine sq_sound (n := 0) (s := .rng g ps.toList x' y') (c := .rangeFunc g ps x y) (C := fun f h => wp P KP r Q f h) (fun h => h) ?_ ha hw
        intro Q f a h ha hw
        refine VW.mono (rng_sound (ca := x) (cb := y) (sa := x') (sb := y') hp2 ?_ ?_ ha hw) (fun e a h hl => by cases e <;> exact hl)
        · intro G0 l Q f a h ha hw
          refine (ihx (fun h => by cases h) hx ha hw).mono ?_
          intro e a h hl; cases e <;> exact hl
        · intro G0 l Q f a h ha hw
          refine (ihy (fun h => by cases h) hy ha hw).mono ?_
          intro e a h hl; cases e <;> exact hl
      · cases hc
    · cases hc
  | refuse why =>
    intro rg rr r s hrg hc G0 Q f a h ha hw
    simp [comp] at hc; subst hc
    exact hw.elim
  | _ => intro rg rr r s hrg hc; simp [comp] at hc
end
end Go.XW
