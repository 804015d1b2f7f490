/- Functions: their results, their contracts; what is frozen or lent for a call. -/
import Derived.Test.YtpiihodkonegbaaXE
namespace Go.XW
open Go.RowKit

inductive RV where
  | t (n : Nat)
  | c (n : Nat) (agg : Bool) (sz : Nat)
  deriving Inhabited
def resC (P : Program) : List ResultVar → Option (List RV)
  | [] => some []
  | .tmp t :: rs => match resC P rs with
    | some r => some (.t t :: r)
    | none => none
  | .cell t ty :: rs => match lay P ty, resC P rs with
    | some (b, sz), some r => some (.c t b sz :: r)
    | _, _ => none
def resK : List RV → Fr → Hp → (List V → Prop) → Prop
  | [], _, _, K => K []
  | .t n :: rs, f, h, K => on (look n f) fun v => resK rs f h fun vs => K (v :: vs)
  | .c n b sz :: rs, f, h, K => on (look n f) fun v => ldK b sz v h fun u => resK rs f h fun vs => K (u :: vs)
/-- One value, or a tuple of them. -/
def tupV : List V → V
  | [x] => x
  | xs => .tup xs
/-- What holds of what is handed back, some blocks perhaps frozen. -/
inductive Ret (R : V → Hp → Prop) : V → Hp → Prop
  | now (v : V) (h : Hp) : R v h → Ret R v h
  | gen (Q : V → V → Prop) (v v2 : V) (h h2 : Hp) : HS Q h h2 → Q v v2 → Ret R v2 h2 → Ret R v h
  | fz (v v2 : V) (h1 h2 : Hp) (k sz : Nat) (es : List (List V)) : VFz k sz es v v2 → Ret R v2 (h1 ++ h2) → Ret R v (h1 ++ (k, .blk sz es) :: h2)
  | less (v : V) (h h2 : Hp) : h2.Sublist h → Ret R v h2 → Ret R v h
  | perm (v : V) (h h2 : Hp) : h2.Perm h → Ret R v h2 → Ret R v h
  | le (v v2 : V) (h : Hp) : VLe v v2 → Ret R v2 h → Ret R v h
def bodyQ (rs : List RV) (R : V → Hp → Prop) : Ex → Fr → Hp → Prop
  | .exit _ => fun _ _ => False
  | _ => fun f h => resK rs f h fun vs => Ret R (tupV vs) h

theorem Ret.seen {base : World} {F : Fro} {w : World} {R : V → Hp → Prop} {v : V} {h : Hp} (hc : Ret R v h) : ∀ {G : Fro} {u : Value}, FLe F G → Sim base G h w → Rep G v u → Seen base F w fun F' h' => ∃ v, Rep F' v u ∧ R v h' := by
  induction hc with
  | now v h hr => intro G u hF hs hv; exact ⟨G, h, hF, hs, v, hv, hr⟩
  | gen Q v v2 h h2 hh hq hr ih =>
    intro G u hF hs hv
    obtain ⟨F', g1, g2, g3⟩ := hh base G _ hs
    exact ih (hF.trans g1) g2 (g3 _ _ hq _ hv)
  | fz v v2 h1 h2 k sz es hz hr ih =>
    intro G u hF hs hv
    obtain ⟨F', g1, g2, g3⟩ := hs.freeze
    exact ih (hF.trans g1) g2 (g3 hz hv)
  | less v h h2 hl hr ih => intro G u hF hs hv; exact ih hF (hs.less hl) hv
  | perm v h h2 hl hr ih => intro G u hF hs hv; exact ih hF (hs.perm hl) hv
  | le v v2 h hl hr ih => intro G u hF hs hv; exact ih hF hs (hv.weak hl)

/-- Blocks frozen, or seen as less, behind a call. -/
theorem VCalls.ret {P : Program} {f : FuncId} {args : List V} {h : Hp} {R : V → Hp → Prop} {RP : List PanicEntry → Hp → Prop} (hc : VCalls P f args h (Ret R) RP) : VCalls P f args h R RP :=
  ⟨hc.ok, fun base F args' w hs hr => (hc.run base F args' w hs hr).mono fun e w' hb => by
    cases e with
    | returned u =>
      obtain ⟨F', h', g1, g2, v, g3, g4⟩ := hb
      exact g4.seen g1 g2 g3
    | panicked c => exact hb
    | outgrown => exact hb⟩
theorem Wk.seen {I : Fr → Hp → Prop} {f : Fr} {h : Hp} {N : Nat} {base : World} {w : World} {act : Act} {Z : Fro → Prop} (hw : Wk I f h) : ∀ {G : Fro} {a : VAct}, Agree N f a → Sim base G h w → RepAct G a act → (∀ G' f h a, FLe G G' → I f h → Agree N f a → Sim base G' h w → RepAct G' a act → Z G') → ∃ G', FLe G G' ∧ Z G' := by
  induction hw with
  | now f h hi => intro G a ha hs hact hk; exact ⟨G, FLe.refl G, hk G f h a (FLe.refl G) hi ha hs hact⟩
  | gen R f f2 h h2 hs1 hf hw ih =>
    intro G a ha hs hact hk
    obtain ⟨F', g1, g2, g3⟩ := hs1 base G w hs
    obtain ⟨g4, g5⟩ := ha.gen g3 hf hact
    obtain ⟨G', k1, k2⟩ := ih g4 g2 g5 (fun G' f h a hG => hk G' f h a (g1.trans hG))
    exact ⟨G', g1.trans k1, k2⟩
  | sub f f2 h hs1 hw ih =>
    intro G a ha hs hact hk
    obtain ⟨h1, h2⟩ := ha.sub hs1
    exact ih h1 hs ⟨hact.tmps.weak h2, by rw [← hact.defers, ha.defers]; rfl⟩ hk
  | less f h h2 hl hw ih => intro G a ha hs hact hk; exact ih ha (hs.less hl) hact hk
  | perm f h h2 hl hw ih => intro G a ha hs hact hk; exact ih ha (hs.perm hl) hact hk
  | name sz f h hw ih =>
    intro G a ha hs hact hk
    obtain ⟨F', k, f1, f2⟩ := Sim.fresh_name (h1 := []) hs sz
    obtain ⟨G', g1, g2⟩ := ih k ha f2 (hact.mono f1) (fun G' f h a hG => hk G' f h a (f1.trans hG))
    exact ⟨G', f1.trans g1, g2⟩
  | fz n u v f h1 h2 k sz es hu hv hw ih =>
    intro G a ha hs hact hk
    obtain ⟨F', g1, g2, g3⟩ := hs.freeze
    have hlt : n < N := by
      have := (List.getElem?_eq_some_iff.1 (ha.get n u hu)).1
      rwa [ha.len] at this
    have ha2 : Agree N ((n, v) :: f) (a.put (some n) v) := ha.put (d := some n) (by simpa [dstOk, Nat.blt] using (show n + 1 ≤ N from hlt)) v
    have hact2 : RepAct F' (a.put (some n) v) act := by
      obtain ⟨x, hx1, hx2⟩ := hact.tmps.get (ha.get n u hu)
      have h3 := g3 hv hx2
      refine ⟨?_, hact.defers⟩
      have h4 := (hact.tmps.mono g1).set h3 n
      have h5 : act.tmps.toList.set n x = act.tmps.toList := by
        apply List.ext_getElem?
        intro i
        by_cases hi : n = i
        · subst hi
          rw [List.getElem?_set]
          have : n < act.tmps.toList.length := (List.getElem?_eq_some_iff.1 hx1).1
          simp only [if_true, this, hx1]
        · rw [List.getElem?_set_ne hi]
      rw [h5] at h4
      exact h4
    obtain ⟨G', k1, k2⟩ := ih ha2 g2 hact2 (fun G' f h a hG => hk G' f h a (g1.trans hG))
    exact ⟨G', g1.trans k1, k2⟩

def resOne (tmps : Array Value) : ResultVar → Sem Value
  | .tmp t => pure (tmps.getD t undef)
  | .cell a t => do loadVar t (← asAddr (tmps.getD a undef))

theorem results_eq (fn : Func) (tmps : Array Value) : results fn tmps = (do let vs ← fn.results.mapM (resOne tmps); pure (if h : vs.size = 1 then vs[0] else .tuple vs)) := by
  unfold results
  congr 1

section
variable {P : Program}
theorem tmps_get {N : Nat} {f : Fr} {a : VAct} {act : Act} {G : Fro} (ha : Agree N f a) (hact : RepAct G a act) {n : Nat} {v : V} (hl : look n f = some v) : Rep G v (act.tmps.getD n undef) := by
  obtain ⟨u, hu, hr⟩ := hact.tmps.get (ha.get n v hl)
  have : act.tmps.getD n undef = u := by
    have hu2 : act.tmps[n]? = some u := by simpa using hu
    simp [Array.getD_eq_getD_getElem?, hu2]
  rw [this]; exact hr

theorem ldK_real {t : TypeId} {b : Bool} {sz : Nat} (hl : lay P t = some (b, sz)) {v : V} {h : Hp} {K : V → Prop} (hk : ldK b sz v h K) :
    ∃ v', K v' ∧ ∀ (base : World) (G : Fro) (w : World) (u : Value), Sim base G h w → Rep G v u → ∃ u', (Instr.loadAt t u).run P w = .ok u' w ∧ Rep G v' u' ∧ ∃ a, u = .pointer (some a) := by
  unfold ldK at hk
  split at hk
  · obtain ⟨v', hK, hv⟩ := valK_real hl hk
    refine ⟨v', hK, fun base G w u hs hr => ?_⟩
    cases hr with
    | adr _ g off vs t' fr hF hp =>
      obtain ⟨u', k1, k2⟩ := hv G w g off vs t' fr (hs.fro g _ hF) hp
      exact ⟨u', k1, k2, _, rfl⟩
  · rename_i sz' k i j
    obtain ⟨l1, es, l2, rfl, ⟨e, he, hz⟩⟩ := hk.open
    obtain ⟨h2, hz⟩ := skipK_get hz
    obtain ⟨v', hK, hv⟩ := valK_real hl hz
    refine ⟨v', hK, fun base G w u hs hr => ?_⟩
    cases hr with
    | ptr _ _ _ _ g tot hrk =>
      obtain ⟨us, t', fr, a, b', c, d, y, z⟩ := hs.find he hrk
      have := y.drop j
      rw [List.drop_drop] at this
      obtain ⟨u', k1, k2⟩ := hv G w g (i * sz' + j) us t' fr a this
      exact ⟨u', k1, k2, _, rfl⟩
  · exact hk.elim

theorem resK_real : ∀ {rs : List ResultVar} {qs : List RV}, resC P rs = some qs → ∀ {f : Fr} {h : Hp} {K : List V → Prop}, resK qs f h K →
    ∃ vs, K vs ∧ ∀ {N : Nat} {base : World} {G : Fro} {w : World} {a : VAct} {act : Act}, Agree N f a → Sim base G h w → RepAct G a act → ∃ us, (rs.mapM (resOne act.tmps)).run P w = .ok us w ∧ RepL G vs us
  | [], qs, hq, f, h, K, hk => by
    simp [resC] at hq; subst hq
    exact ⟨[], hk, fun _ _ _ => ⟨[], by simp, .nil⟩⟩
  | .tmp t :: rs, qs, hq, f, h, K, hk => by
    unfold resC at hq
    split at hq
    · rename_i r hr
      cases hq
      obtain ⟨v, h1, h2⟩ := on_get hk
      obtain ⟨vs, h3, h4⟩ := resK_real hr h2
      refine ⟨v :: vs, h3, fun ha hs hact => ?_⟩
      obtain ⟨us, k1, k2⟩ := h4 ha hs hact
      refine ⟨_, ?_, .cons _ _ _ _ (tmps_get ha hact h1) k2⟩
      rw [List.mapM_cons]
      simp only [resOne, Sem.run_bind, k1, Result.andThen_ok, Sem.run_pure]
    · cases hq
  | .cell t ty :: rs, qs, hq, f, h, K, hk => by
    unfold resC at hq
    split at hq
    · rename_i b sz r hl hr
      cases hq
      obtain ⟨v, h1, h2⟩ := on_get hk
      obtain ⟨v', h3, h5⟩ := ldK_real hl h2
      obtain ⟨vs, h6, h7⟩ := resK_real hr h3
      refine ⟨v' :: vs, h6, fun {N base G w a act} ha hs hact => ?_⟩
      obtain ⟨us, k1, k2⟩ := h7 ha hs hact
      obtain ⟨u', k3, k4, ad, k5⟩ := h5 _ _ _ _ hs (tmps_get ha hact h1)
      refine ⟨_, ?_, .cons _ _ _ _ k4 k2⟩
      rw [List.mapM_cons]
      have k6 : (resOne act.tmps (.cell t ty)).run P w = .ok u' w := by
        rw [k5] at k3
        simpa [resOne, k5, asAddr, Instr.loadAt, Instr.sureAddr] using k3
      simp only [Sem.run_bind, k6, k1, Result.andThen_ok, Sem.run_pure]
    · cases hq

def argFr : Nat → List V → Fr
  | _, [] => []
  | n, v :: vs => (n, v) :: argFr (n + 1) vs
theorem look_argFr : ∀ (vs : List V) (n m : Nat) (v : V), look m (argFr n vs) = some v → n ≤ m ∧ vs[m - n]? = some v
  | [], n, m, v, h => by simp [argFr, look] at h
  | u :: vs, n, m, v, h => by
    simp only [argFr, look_cons] at h
    split at h
    · rename_i he; subst he; cases h; simp
    · rename_i hne
      obtain ⟨h1, h2⟩ := look_argFr vs (n + 1) m v h
      refine ⟨by omega, ?_⟩
      rw [show m - n = (m - (n + 1)) + 1 by omega]
      simpa using h2

/-- **A function's contract, out of its conditions.** -/
theorem xcalls {f : FuncId} {fn : Func} {c : Code} {N : Nat} {s : S} {rs : List RV} {args : List V} {h : Hp} {R : V → Hp → Prop} {RP : List PanicEntry → Hp → Prop} (hok : okFn P f = true) (hf : P.funcs[f]? = some fn) (hb : fn.body = some c) (hn : fn.ntmps = N) (hs : comp P N c .done = some s) (hr : resC P fn.results.toList = some rs)
    (hNl : Nat.ble args.length N = true) (hw : wp P RP s (bodyQ rs R) (argFr 0 args) h) : VCalls P f args h R RP := by
  refine ⟨hok, fun base F args' w hsim ha => ?_⟩
  have hl : args.length = args'.size := by have := ha.length; simpa using this
  -- the frame: the arguments, then what is not set yet
  have hNl : args.length ≤ N := Nat.le_of_ble_eq_true hNl
  · have hact : RepAct F ⟨args ++ List.replicate (N - args.length) (.v undef), []⟩ { tmps := args' ++ Array.replicate (fn.ntmps - args'.size) undef, defers := [] } := by
      refine ⟨?_, rfl⟩
      rw [Array.toList_append, hn, hl]
      refine ha.append ?_
      have := RepL.lits (F := F) (List.replicate (N - args'.size) undef)
      simpa using this
    have hag : Agree N (argFr 0 args) ⟨args ++ List.replicate (N - args.length) (.v undef), []⟩ := by
      refine ⟨fun n v hv => ?_, rfl, by simp; omega⟩
      obtain ⟨_, h1⟩ := look_argFr args 0 n v hv
      rw [Nat.sub_zero] at h1
      rw [List.getElem?_append_left (List.getElem?_eq_some_iff.1 h1).1]
      exact h1
    have hvw := comp_sound (rr := none) c hs hag hw
    have h1 := hvw base F _ w hsim hact
    have h2 : CallsIn Fence.wide 0 P f args' w (Back base F R RP) := by
      refine callsIn_of_wp hf hb trivial (wpIn_mono h1 ?_) rfl
      intro e act' w' hl2
      obtain ⟨F', h', hF, hs', a', ha', hq⟩ := hl2
      have fin : ∀ f', Agree N f' a' → Wk (fun f h => resK rs f h fun vs => Ret R (tupV vs) h) f' h' → (act'.defers = [] ∧ ∃ u, (results fn act'.tmps).run P w' = .ok u w' ∧ Back base F R RP (.returned u) w') := by
        intro f' hag' hwk
        refine ⟨by rw [← ha'.defers, hag'.defers], ?_⟩
        obtain ⟨G', _, hz⟩ := Wk.seen (Z := fun _ => ∃ u, (results fn act'.tmps).run P w' = .ok u w' ∧ Back base F R RP (.returned u) w') hwk hag' hs' ha' (fun G' f h a hG hi ha hs hact => by
          obtain ⟨vs, k1, k2⟩ := resK_real hr hi
          obtain ⟨us, k3, k4⟩ := k2 ha hs hact
          rw [results_eq]
          have hm : (fn.results.mapM (resOne act'.tmps)).run P w' = .ok us.toArray w' := by
            rw [Array.mapM_eq_mapM_toList, Sem.run_map, k3]
            rfl
          rw [Sem.run_bind, hm]
          simp only [Result.andThen_ok, Sem.run_pure]
          have hrep : ∃ u, (if h : us.toArray.size = 1 then us.toArray[0] else Value.tuple us.toArray) = u ∧ Rep G' (tupV vs) u := by
            cases k4 with
            | nil => exact ⟨_, rfl, by simpa [tupV] using Rep.tup (F := G') [] #[] .nil⟩
            | cons x u xs us h1 h2 =>
              cases h2 with
              | nil => exact ⟨u, by simp, h1⟩
              | cons y v ys vs h3 h4 => exact ⟨.tuple (u :: v :: vs).toArray, by simp, .tup _ _ (.cons _ _ _ _ h1 (.cons _ _ _ _ h3 h4))⟩
          obtain ⟨u, e1, e2⟩ := hrep
          refine ⟨u, by rw [e1], ?_⟩
          exact k1.seen (hF.trans hG) hs e2)
        exact hz
      cases e with
      | normal => obtain ⟨f', k1, k2⟩ := hq; exact fin f' k1 (Wk.mono k2 fun f h hk => hk)
      | ret => obtain ⟨f', k1, k2⟩ := hq; exact fin f' k1 (Wk.mono k2 fun f h hk => hk)
      | exit i => obtain ⟨f', k1, k2⟩ := hq; exact (Wk.ne k2 fun f h hk => hk).elim
      | panic ch => exact ⟨by rw [← ha'.defers, hq.1], F', h', hF, hs', hq.2⟩
      | goto l => exact hq
      | outgrown => exact hq
    exact callsIn_wide.1 h2
end
end Go.XW
