/- Functions: their results, their contracts; what is frozen or lent for a call. -/
import Derived.Test.YtpiicncihccheaaGreatDoorXQ
namespace Go.XW
open Go.RowKit

inductive RV where
  | t (n : Nat)
  | c (n : Nat) (agg : Bool) (sz : Nat)
  deriving Inhabited
def resC (P : Program) : List ResultVar → Option (List RV)
  | [] => some []
  | .tmp t :: rs => match resC P rs with
    | some r => some (.t t :: r)
    | none => none
  | .cell t ty :: rs => match lay P ty, resC P rs with
    | some (b, sz), some r => some (.c t b sz :: r)
    | _, _ => none
def resK : List RV → Fr → Hp → (List V → Prop) → Prop
  | [], _, _, K => K []
  | .t n :: rs, f, h, K => on (look n f) fun v => resK rs f h fun vs => K (v :: vs)
  | .c n b sz :: rs, f, h, K => on (look n f) fun v => ldK b sz v h fun u => resK rs f h fun vs => K (u :: vs)
/-- One value, or a tuple of them. -/
def tupV : List V → V
  | [x] => x
  | xs => .tup xs
/-- What holds of what is handed back, some blocks perhaps frozen. -/
inductive Ret (R : V → Hp → Prop) : V → Hp → Prop
  | now (v : V) (h : Hp) : R v h → Ret R v h
  | gen (Q : V → V → Prop) (v v2 : V) (h h2 : Hp) : HS Q h h2 → Q v v2 → Ret R v2 h2 → Ret R v h
  | fz (v v2 : V) (h1 h2 : Hp) (k sz : Nat) (es : List (List V)) : VFz k sz es v v2 → Ret R v2 (h1 ++ h2) → Ret R v (h1 ++ (k, .blk sz es) :: h2)
  | less (v : V) (h h2 : Hp) : h2.Sublist h → Ret R v h2 → Ret R v h
  | perm (v : V) (h h2 : Hp) : h2.Perm h → Ret R v h2 → Ret R v h
  | le (v v2 : V) (h : Hp) : VLe v v2 → Ret R v2 h → Ret R v h
def bodyQ (rs : List RV) (R : V → Hp → Prop) : Ex → Fr → Hp → Prop
  | .exit _ => fun _ _ => False
  | _ => fun f h => resK rs f h fun vs => Ret R (tupV vs) h

theorem Ret.seen {base : World} {F : Fro} {w : World} {R : V → Hp → Prop} {v : V} {h : Hp} (hc : Ret R v h) : ∀ {G : Fro} {u : Value}, FLe F G → Sim base G h w → Rep G v u → Seen base F w fun F' h' => ∃ v, Rep F' v u ∧ R v h' := by
  induction hc with
  | now v h hr => intro G u hF hs hv; exact ⟨G, h, hF, hs, v, hv, hr⟩
  | gen Q v v2 h h2 hh hq hr ih =>
    intro G u hF hs hv
    obtain ⟨F', g1, g2, g3⟩ := hh base G _ hs
    exact ih (hF.trans g1) g2 (g3 _ _ hq _ hv)
  | fz v v2 h1 h2 k sz es hz hr ih =>
    intro G u hF hs hv
    obtain ⟨F', g1, g2, g3⟩ := hs.freeze
    exact ih (hF.trans g1) g2 (g3 hz hv)
  | less v h h2 hl hr ih => intro G u hF hs hv; exact ih hF (hs.less hl) hv
  | perm v h h2 hl hr ih => intro G u hF hs hv; exact ih hF (hs.perm hl) hv
  | le v v2 h hl hr ih => intro G u hF hs hv; exact ih hF hs (hv.weak hl)

/-- Blocks frozen, or seen as less, behind a call. -/
theorem VCalls.ret {P : Program} {f : FuncId} {args : List V} {h : Hp} {R : V → Hp → Prop} {RP : List PanicEntry → Hp → Prop} (hc : VCalls P f args h (Ret R) RP) : VCalls P f args h R RP :=
  ⟨hc.ok, fun base F args' w hs hr => (hc.run base F args' w hs hr).mono fun e w' hb => by
    cases e with
    | returned u =>
      obtain ⟨F', h', g1, g2, v, g3, g4⟩ := hb
      exact g4.seen g1 g2 g3
    | panicked c => exact hb
    | outgrown => exact hb⟩
def resOne (tmps : Array Value) : ResultVar → Sem Value
  | .tmp t => pure (tmps.getD t undef)
  | .cell a t => do loadVar t (← asAddr (tmps.getD a undef))

theorem results_eq (fn : Func) (tmps : Array Value) : results fn tmps = (do let vs ← fn.results.mapM (resOne tmps); pure (if h : vs.size = 1 then vs[0] else .tuple vs)) := by
  unfold results
  congr 1

theorem noMark {F : Fro} {r g : Nat} {ds : Option (List Deferred)} {vs : Array Value} {t : TypeId} {fr : Nat × Nat} (hr : F.f r = some (.deferred ds)) (h1 : F.f g = some (.cells vs t fr)) : (if g = r then none else F.f g) = some (.cells vs t fr) := by
  have : g ≠ r := fun he => by subst he; rw [hr] at h1; cases h1
  rw [if_neg this]; exact h1
mutual
theorem Rep.nomark {F : Fro} {r : Nat} {ds : Option (List Deferred)} (hr : F.f r = some (.deferred ds)) : ∀ {x : V} {u : Value}, Rep F x u → Rep ⟨fun g => if g = r then none else F.f g, F.r⟩ x u
  | _, _, .any u => .any u
  | _, _, .v x => .v x
  | _, _, .row0 sz a c => .row0 sz a c
  | _, _, .row sz es g off n c vs t fr h1 h2 h3 h4 => .row sz es g off n c vs t fr (noMark hr h1) h2 h3 (RepR.nomark hr h4)
  | _, _, .adr cs g off vs t fr h1 h2 => .adr cs g off vs t fr (noMark hr h1) (RepP.nomark hr h2)
  | _, _, .agg cs us h => .agg cs us (RepL.nomark hr h)
  | _, _, .tup cs us h => .tup cs us (RepL.nomark hr h)
  | _, _, .ifc t x u h => .ifc t x u (Rep.nomark hr h)
  | _, _, .fn f a b a' b' h k => .fn f a b a' b' (RepL.nomark hr h) (RepL.nomark hr k)
  | _, _, .osl0 sz k off a => .osl0 sz k off a
  | _, _, .osl sz k off n c g tot h1 h2 h3 h4 => .osl sz k off n c g tot h1 h2 h3 h4
  | _, _, .ptr sz k i j g tot h1 => .ptr sz k i j g tot h1
  | _, _, .obj k g tot h1 => .obj k g tot h1
  | _, _, .yld k g tot h1 => .yld k g tot h1
theorem RepL.nomark {F : Fro} {r : Nat} {ds : Option (List Deferred)} (hr : F.f r = some (.deferred ds)) : ∀ {xs : List V} {us : List Value}, RepL F xs us → RepL ⟨fun g => if g = r then none else F.f g, F.r⟩ xs us
  | _, _, .nil => .nil
  | _, _, .cons x u xs us h k => .cons x u xs us (Rep.nomark hr h) (RepL.nomark hr k)
theorem RepP.nomark {F : Fro} {r : Nat} {ds : Option (List Deferred)} (hr : F.f r = some (.deferred ds)) : ∀ {xs : List V} {us : List Value}, RepP F xs us → RepP ⟨fun g => if g = r then none else F.f g, F.r⟩ xs us
  | _, _, .nil us => .nil us
  | _, _, .cons x u xs us h k => .cons x u xs us (Rep.nomark hr h) (RepP.nomark hr k)
theorem RepR.nomark {F : Fro} {r : Nat} {ds : Option (List Deferred)} (hr : F.f r = some (.deferred ds)) : ∀ {sz : Nat} {xs : List (List V)} {us : List Value}, RepR F sz xs us → RepR ⟨fun g => if g = r then none else F.f g, F.r⟩ sz xs us
  | _, _, _, .nil sz us => .nil sz us
  | _, _, _, .cons sz e es us h1 h2 h3 => .cons sz e es us h1 (RepP.nomark hr h2) (RepR.nomark hr h3)
end
/-- A frame's marks are taken up as it leaves. -/
theorem leaves_marks {P : Program} {fn : Func} {tmps : Array Value} {R : Ending → World → Prop} {base : World} {u : FrameMode} (hu : u ≠ .run) : ∀ (ds : List Deferred) (F G : Fro) (h : Hp) (w : World), Sim base F h w → FLe G F → Marks F G ds →
    (∀ F' w', FLe G F' → Sim base F' h w' → (∀ v x, Rep F v x → Rep F' v x) → LeavesIn Fence.wide 0 P fn tmps R [] u w') → LeavesInM Fence.wide 0 P fn tmps R ds u w
  | [], F, G, h, w, hs, hG, hm, hk => hk F w hG hs (fun _ _ hr => hr)
  | d :: ds, F, G, h, w, hs, hG, hm, hk => by
    obtain ⟨r, k, tot, e1, e2, e3, e4⟩ := hm.2 d (List.mem_cons_self ..)
    subst e1
    have hw := hs.fro _ _ e3
    refine ⟨hu, .inl ⟨r, _, rfl, run_takeDeferred hw, ?_⟩⟩
    -- the block is let go
    let F' : Fro := ⟨fun g => if g = r then none else F.f g, F.r⟩
    have hrep : ∀ {v : V} {x : Value}, Rep F v x → Rep F' v x := fun hr => Rep.nomark e3 hr
    have hs' : Sim base F' h (w.putObj r (.deferred none)) := by
      have hlt : r < w.heap.size := (Array.getElem?_eq_some_iff.1 hw).1
      have hb := hs.below.grown (grownBy_putObj' w r (.deferred none)) hs.below.size fun k' hk' => by cases hk'; exact (hs.adr _ _ _ e4).1
      refine ⟨hb, ?_, ?_, hs.inj, hs.fresh, hs.nodup, ?_, ?_⟩
      · intro g o hg
        dsimp only [F'] at hg
        split at hg
        · cases hg
        · rename_i hne
          rw [World.putObj_heap_other hne]
          exact hs.fro g o hg
      · intro k' g tot' hr'
        have := hs.adr k' g tot' hr'
        exact ⟨this.1, by simpa using this.2⟩
      · intro k' c hc
        have h3 := hs.own k' c hc
        have hne : ∀ g, F.f g = none → g ≠ r := fun g hg he => by subst he; rw [e3] at hg; cases hg
        cases c with
        | blk sz es =>
          rcases h3 with h3 | ⟨g, tot', us, t, fr, a, b, c, d, z, y⟩
          · exact .inl h3
          · exact .inr ⟨g, tot', us, t, fr, a, by simp [F', b], by rw [World.putObj_heap_other (hne g b)]; exact c, d, z, RepR.nomark e3 y⟩
        | obj o =>
          obtain ⟨g, tot', a, b, c⟩ := h3
          exact ⟨g, tot', a, by simp [F', b], by rw [World.putObj_heap_other (hne g b)]; exact c⟩
        | lp N f r' =>
          obtain ⟨g, tot', tm, a, b, c, d, e⟩ := h3
          exact ⟨g, tot', tm, a, by simp [F', b], by rw [World.putObj_heap_other (hne g b)]; exact c, d, fun n v hn => let ⟨u, p, q⟩ := e n v hn; ⟨u, p, hrep q⟩⟩
        | tab g vs => obtain ⟨a, t, fr, b⟩ := h3; exact ⟨a, t, fr, noMark e3 b⟩
      · intro k' g tot' T hr' hn
        obtain ⟨n2, hsh, hsh3⟩ := hs.typ _ _ _ _ hr' hn
        have hne : g ≠ r := fun he => by
          subst he
          unfold World.shape? at hsh
          rw [hw] at hsh
          cases hsh
        exact ⟨n2, by rw [shape_of_heap (World.putObj_heap_other hne)]; exact hsh, hsh3⟩
    have hG' : FLe G F' := ⟨fun g o hg => by
      have : g ≠ r := fun he => by subst he; rw [e2] at hg; cases hg
      simp [F', this, hG.1 g o hg], hG.2⟩
    have hm' : Marks F' G ds := by
      refine ⟨(List.nodup_cons.1 hm.1).2, fun d hd => ?_⟩
      obtain ⟨r', k', tot', q1, q2, q3, q4⟩ := hm.2 d (List.mem_cons_of_mem _ hd)
      have : r' ≠ r := fun he => by
        subst he
        rw [q1] at hd
        exact (List.nodup_cons.1 hm.1).1 hd
      exact ⟨r', k', tot', q1, q2, by simp [F', this, q3], q4⟩
    exact leaves_marks hu ds F' G h _ hs' hG' hm' fun F'' w'' a b c => hk F'' w'' a b fun v x hr => c v x (hrep hr)

section
theorem RepL.trans {F F' : Fro} (hF : ∀ {v : V} {x : Value}, Rep F v x → Rep F' v x) : ∀ {xs : List V} {us : List Value}, RepL F xs us → RepL F' xs us
  | _, _, .nil => .nil
  | _, _, .cons x u xs us h k => .cons x u xs us (hF h) (k.trans hF)
variable {P : Program} {G0 : Fro}
theorem tmps_get {N : Nat} {f : Fr} {a : VAct} {act : Act} {G : Fro} (ha : Agree N G0 f a) (hact : RepAct G a act) {n : Nat} {v : V} (hl : look n f = some v) : Rep G v (act.tmps.getD n undef) := by
  obtain ⟨u, hu, hr⟩ := hact.tmps.get (ha.get n v hl)
  have : act.tmps.getD n undef = u := by
    have hu2 : act.tmps[n]? = some u := by simpa using hu
    simp [Array.getD_eq_getD_getElem?, hu2]
  rw [this]; exact hr

theorem ldK_real {t : TypeId} {b : Bool} {sz : Nat} (hl : lay P t = some (b, sz)) {v : V} {h : Hp} {K : V → Prop} (hk : ldK b sz v h K) :
    ∃ v', K v' ∧ ∀ (base : World) (G : Fro) (w : World) (u : Value), Sim base G h w → Rep G v u → ∃ u', (Instr.loadAt t u).run P w = .ok u' w ∧ Rep G v' u' ∧ ∃ a, u = .pointer (some a) := by
  unfold ldK at hk
  split at hk
  · obtain ⟨v', hK, hv⟩ := valK_real hl hk
    refine ⟨v', hK, fun base G w u hs hr => ?_⟩
    cases hr with
    | adr _ g off vs t' fr hF hp =>
      obtain ⟨u', k1, k2⟩ := hv G w g off vs t' fr (hs.fro g _ hF) hp
      exact ⟨u', k1, k2, _, rfl⟩
  · rename_i sz' k i j
    obtain ⟨l1, es, l2, rfl, ⟨e, he, hz⟩⟩ := hk.open
    obtain ⟨h2, hz⟩ := skipK_get hz
    obtain ⟨v', hK, hv⟩ := valK_real hl hz
    refine ⟨v', hK, fun base G w u hs hr => ?_⟩
    cases hr with
    | ptr _ _ _ _ g tot hrk =>
      obtain ⟨us, t', fr, a, b', c, d, y, z⟩ := hs.find he hrk
      have := y.drop j
      rw [List.drop_drop] at this
      obtain ⟨u', k1, k2⟩ := hv G w g (i * sz' + j) us t' fr a this
      exact ⟨u', k1, k2, _, rfl⟩
  · rename_i g off
    obtain ⟨k, vs, hm, ⟨us, hus, hz⟩⟩ := hk.open
    obtain ⟨v', hK, hv⟩ := valK_real hl hz
    refine ⟨v', hK, fun base G w u hs hr => ?_⟩
    rw [hr.lit]
    obtain ⟨_, t', fr, hF⟩ := hs.own _ _ hm
    have hp : RepP G (us.map V.v) (vs.toArray.toList.drop off) := by
      have := (RepL.lits (F := G) us).toP
      rw [← hus] at this ⊢
      refine this.front ?_
      simp [List.take_take]
    obtain ⟨u', k1, k2⟩ := hv G w g off vs.toArray t' fr (hs.fro g _ hF) hp
    exact ⟨u', k1, k2, _, rfl⟩
  · exact hk.elim

theorem resK_real : ∀ {rs : List ResultVar} {qs : List RV}, resC P rs = some qs → ∀ {f : Fr} {h : Hp} {K : List V → Prop}, resK qs f h K →
    ∃ vs, K vs ∧ ∀ {N : Nat} {base : World} {G : Fro} {w : World} {a : VAct} {act : Act}, Agree N G0 f a → Sim base G h w → RepAct G a act → ∃ us, (rs.mapM (resOne act.tmps)).run P w = .ok us w ∧ RepL G vs us
  | [], qs, hq, f, h, K, hk => by
    simp [resC] at hq; subst hq
    exact ⟨[], hk, fun _ _ _ => ⟨[], by simp, .nil⟩⟩
  | .tmp t :: rs, qs, hq, f, h, K, hk => by
    unfold resC at hq
    split at hq
    · rename_i r hr
      cases hq
      obtain ⟨v, h1, h2⟩ := on_get hk
      obtain ⟨vs, h3, h4⟩ := resK_real hr h2
      refine ⟨v :: vs, h3, fun ha hs hact => ?_⟩
      obtain ⟨us, k1, k2⟩ := h4 ha hs hact
      refine ⟨_, ?_, .cons _ _ _ _ (tmps_get ha hact h1) k2⟩
      rw [List.mapM_cons]
      simp only [resOne, Sem.run_bind, k1, Result.andThen_ok, Sem.run_pure]
    · cases hq
  | .cell t ty :: rs, qs, hq, f, h, K, hk => by
    unfold resC at hq
    split at hq
    · rename_i b sz r hl hr
      cases hq
      obtain ⟨v, h1, h2⟩ := on_get hk
      obtain ⟨v', h3, h5⟩ := ldK_real hl h2
      obtain ⟨vs, h6, h7⟩ := resK_real hr h3
      refine ⟨v' :: vs, h6, fun {N base G w a act} ha hs hact => ?_⟩
      obtain ⟨us, k1, k2⟩ := h7 ha hs hact
      obtain ⟨u', k3, k4, ad, k5⟩ := h5 _ _ _ _ hs (tmps_get ha hact h1)
      refine ⟨_, ?_, .cons _ _ _ _ k4 k2⟩
      rw [List.mapM_cons]
      have k6 : (resOne act.tmps (.cell t ty)).run P w = .ok u' w := by
        rw [k5] at k3
        simpa [resOne, k5, asAddr, Instr.loadAt, Instr.sureAddr] using k3
      simp only [Sem.run_bind, k6, k1, Result.andThen_ok, Sem.run_pure]
    · cases hq

def argFr : Nat → List V → Fr
  | _, [] => []
  | n, v :: vs => (n, v) :: argFr (n + 1) vs
theorem look_argFr : ∀ (vs : List V) (n m : Nat) (v : V), look m (argFr n vs) = some v → n ≤ m ∧ vs[m - n]? = some v
  | [], n, m, v, h => by simp [argFr, look] at h
  | u :: vs, n, m, v, h => by
    simp only [argFr, look_cons] at h
    split at h
    · rename_i he; subst he; cases h; simp
    · rename_i hne
      obtain ⟨h1, h2⟩ := look_argFr vs (n + 1) m v h
      refine ⟨by omega, ?_⟩
      rw [show m - n = (m - (n + 1)) + 1 by omega]
      simpa using h2

/-- **A function's contract, out of its conditions.** -/
theorem xcalls {f : FuncId} {fn : Func} {c : Code} {N : Nat} {s : S} {rs : List RV} {args : List V} {h : Hp} {R : V → Hp → Prop} {RP : List PanicEntry → Hp → Prop} (hok : okFn P f = true) (hf : P.funcs[f]? = some fn) (hb : fn.body = some c) (hn : fn.ntmps = N) (hs : comp P N true c .done = some s) (hr : resC P fn.results.toList = some rs)
    (hNl : Nat.ble args.length N = true) (hw : wp P RP s (bodyQ rs R) (argFr 0 args) h) : VCalls P f args h R RP := by
  refine ⟨hok, fun base F args' w hsim ha => ?_⟩
  have hl : args.length = args'.size := by have := ha.length; simpa using this
  -- the frame: the arguments, then what is not set yet
  have hNl : args.length ≤ N := Nat.le_of_ble_eq_true hNl
  · have hact : RepAct F ⟨args ++ List.replicate (N - args.length) (.v undef), [], F⟩ { tmps := args' ++ Array.replicate (fn.ntmps - args'.size) undef, defers := [] } := by
      refine ⟨?_, rfl, FLe.refl F, Marks.nil F F⟩
      rw [Array.toList_append, hn, hl]
      refine ha.append ?_
      have := RepL.lits (F := F) (List.replicate (N - args'.size) undef)
      simpa using this
    have hag : Agree N F (argFr 0 args) ⟨args ++ List.replicate (N - args.length) (.v undef), [], F⟩ := by
      refine ⟨fun n v hv => ?_, rfl, by simp; omega⟩
      obtain ⟨_, h1⟩ := look_argFr args 0 n v hv
      rw [Nat.sub_zero] at h1
      rw [List.getElem?_append_left (List.getElem?_eq_some_iff.1 h1).1]
      exact h1
    have hvw := comp_sound (rr := none) (rg := true) c (fun _ => rfl) hs hag hw
    have h1 := hvw base F _ w hsim hact
    have h2 : CallsIn Fence.wide 0 P f args' w (Back base F R RP) := by
      refine callsIn_of_wp_marks hf hb trivial (wpIn_mono h1 ?_) rfl
      intro e act' w' hl2
      obtain ⟨F', h', hF, hs', a', ha', hq⟩ := hl2
      have fin : ∀ f', Agree N F f' a' → Wk (fun f h => resK rs f h fun vs => Ret R (tupV vs) h) f' h' → LeavesInM Fence.wide 0 P fn act'.tmps (Back base F R RP) act'.defers .returning w' := by
        intro f' hag' hwk
        obtain ⟨G', _, hz⟩ := Wk.seen (Z := fun _ => LeavesInM Fence.wide 0 P fn act'.tmps (Back base F R RP) act'.defers .returning w') hwk hag' hs' ha' (fun G' f h a hG hi ha hs hact => by
          refine leaves_marks (by simp) act'.defers G' F h w' hs (hF.trans hG) (by have := hact.marks; rw [ha.start, hact.defers] at this; exact this) ?_
          intro F'' w'' hF'' hs'' hrep
          obtain ⟨vs, k1, k2⟩ := resK_real hr hi
          have hact2 : RepAct F'' { a with defers := [], start := F'' } { act' with defers := [] } := ⟨hact.tmps.trans (fun hr => hrep _ _ hr), rfl, FLe.refl _, Marks.nil _ _⟩
          have ha2 : Agree N F'' f { a with defers := [], start := F'' } := ⟨ha.get, rfl, ha.len⟩
          obtain ⟨us, k3, k4⟩ := k2 ha2 hs'' hact2
          have hm : (fn.results.mapM (resOne act'.tmps)).run P w'' = .ok us.toArray w'' := by
            rw [Array.mapM_eq_mapM_toList, Sem.run_map, k3]
            rfl
          have hrep : ∃ u, (if h : us.toArray.size = 1 then us.toArray[0] else Value.tuple us.toArray) = u ∧ Rep F'' (tupV vs) u := by
            cases k4 with
            | nil => exact ⟨_, rfl, by simpa [tupV] using Rep.tup (F := F'') [] #[] .nil⟩
            | cons x u xs us h1 h2 =>
              cases h2 with
              | nil => exact ⟨u, by simp, h1⟩
              | cons y v ys vs h3 h4 => exact ⟨.tuple (u :: v :: vs).toArray, by simp, .tup _ _ (.cons _ _ _ _ h1 (.cons _ _ _ _ h3 h4))⟩
          obtain ⟨u, e1, e2⟩ := hrep
          refine ⟨u, ?_, k1.seen hF'' hs'' e2⟩
          rw [results_eq, Sem.run_bind, hm]
          simp only [Result.andThen_ok, Sem.run_pure]
          rw [e1])
        exact hz
      cases e with
      | normal => obtain ⟨f', k1, k2⟩ := hq; exact fin f' k1 (Wk.mono k2 fun f h hk => hk)
      | ret => obtain ⟨f', k1, k2⟩ := hq; exact fin f' k1 (Wk.mono k2 fun f h hk => hk)
      | exit i => obtain ⟨f', k1, k2⟩ := hq; exact (Wk.ne k2 fun f h hk => hk).elim
      | panic ch =>
        refine leaves_marks (by simp) act'.defers F' F h' w' hs' hF (by have := ha'.marks; rw [hq.1, ha'.defers] at this; exact this) ?_
        intro F'' w'' hF'' hs'' _
        exact ⟨F'', h', hF'', hs'', hq.2⟩
      | goto l => exact hq
      | outgrown => exact hq
    exact callsIn_wide.1 h2
end
end Go.XW
