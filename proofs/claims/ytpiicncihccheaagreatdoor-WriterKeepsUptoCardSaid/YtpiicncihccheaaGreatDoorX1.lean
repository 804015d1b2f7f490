/- The triples over views: of a call, of an operation, of code; the rules of control. -/
import Derived.Test.YtpiicncihccheaaGreatDoorX0
namespace Go.XW
open Go.RowKit

theorem Rep.lit {F : Fro} {x u : Value} (h : Rep F (.v x) u) : u = x := by cases h; rfl

theorem exists_least {p : Nat → Prop} (h : ∃ n, p n) : ∃ n, p n ∧ ∀ m, p m → n ≤ m := by
  obtain ⟨n, hn⟩ := h
  induction n using Nat.strongRecOn with
  | _ n ih =>
    by_cases hm : ∃ m, m < n ∧ p m
    · obtain ⟨m, hlt, hp⟩ := hm
      exact ih m hlt hp
    · exact ⟨n, hn, fun m hp => Nat.le_of_not_lt fun hlt => hm ⟨m, hlt, hp⟩⟩

/-- The fence that shuts nothing out, in the frame of a round or not. -/
def Fw (r : Option Nat) : Fence := { Fence.wide with round := r }

theorem Fw_fn (r : Option Nat) (f : FuncId) : (Fw r).fn f := trivial
theorem Fw_depth (r : Option Nat) : (Fw r).depth = none := rfl
theorem Fw_round (r : Option Nat) : (Fw r).round = r := rfl

/-- What holds of some views that fit. -/
def Seen (base : World) (F : Fro) (w' : World) (K : Fro → Hp → Prop) : Prop :=
  ∃ F' h', FLe F F' ∧ Sim base F' h' w' ∧ K F' h'

theorem Seen.mono {base : World} {F : Fro} {w' : World} {K K' : Fro → Hp → Prop} (h : Seen base F w' K) (hk : ∀ F' h', K F' h' → K' F' h') : Seen base F w' K' :=
  let ⟨F', h', a, b, c⟩ := h; ⟨F', h', a, b, hk _ _ c⟩

theorem Seen.from {base : World} {F G : Fro} {w' : World} {K : Fro → Hp → Prop} (h : Seen base G w' K) (hF : FLe F G) : Seen base F w' K :=
  let ⟨F', h', a, b, c⟩ := h; ⟨F', h', hF.trans a, b, c⟩

/-- How a call ends, seen. -/
def Back (base : World) (F : Fro) (R : V → Hp → Prop) (RP : List PanicEntry → Hp → Prop) : Ending → World → Prop
  | .returned u, w' => Seen base F w' fun F' h' => ∃ v, Rep F' v u ∧ R v h'
  | .panicked ch, w' => Seen base F w' fun _ h' => RP ch h'
  | .outgrown, _ => False

/-- A function that the program has, with a body. -/
def okFn (P : Program) (f : FuncId) : Bool :=
  match P.funcs[f]? with
  | some fn => !(fn.name == "runtime.NumGoroutine") && fn.body.isSome
  | none => false

structure VCalls (P : Program) (f : FuncId) (args : List V) (h : Hp) (R : V → Hp → Prop) (RP : List PanicEntry → Hp → Prop := fun _ _ => False) : Prop where
  ok : okFn P f = true
  run : ∀ (base : World) (F : Fro) (args' : Array Value) (w : World), Sim base F h w → RepL F args args'.toList → Calls P f args' w (Back base F R RP)

theorem Back.mono {base : World} {F : Fro} {R R' : V → Hp → Prop} {RP RP' : List PanicEntry → Hp → Prop} (hr : ∀ v h, R v h → R' v h) (hp : ∀ c h, RP c h → RP' c h) {e : Ending} {w : World} (hh : Back base F R RP e w) : Back base F R' RP' e w := by
  cases e with
  | returned u => exact Seen.mono hh fun _ _ ⟨v, a, b⟩ => ⟨v, a, hr _ _ b⟩
  | panicked c => exact Seen.mono hh fun _ _ a => hp _ _ a
  | outgrown => exact hh

theorem VCalls.mono {P : Program} {f : FuncId} {args : List V} {h : Hp} {R R' : V → Hp → Prop} {RP RP' : List PanicEntry → Hp → Prop} (hc : VCalls P f args h R RP) (hr : ∀ v h, R v h → R' v h) (hp : ∀ c h, RP c h → RP' c h) : VCalls P f args h R' RP' :=
  ⟨hc.1, fun base F args' w hs ha => (hc.2 base F args' w hs ha).mono fun _ _ x => x.mono hr hp⟩

theorem VCalls.imp {P : Program} {f : FuncId} {args : List V} {h : Hp} {R R' : V → Hp → Prop} {RP : List PanicEntry → Hp → Prop} (hc : VCalls P f args h R RP) (hr : ∀ v h, R v h → R' v h) : VCalls P f args h R' RP :=
  hc.mono hr fun _ _ h => h

/-- A call that hands back. -/
theorem VCalls.gives {P : Program} {f : FuncId} {args : List V} {h : Hp} {R R' : V → Hp → Prop} {RP : List PanicEntry → Hp → Prop} (hc : VCalls P f args h R) (hr : ∀ v h, R v h → R' v h) : VCalls P f args h R' RP :=
  hc.mono hr fun _ _ h => h.elim

/-- What an operation comes to. -/
def VOut (P : Program) (base : World) (F : Fro) (K : V → Hp → Prop) (KP : List PanicEntry → Hp → Prop) : Result Next → Prop
  | .ok (.value u) w' => Seen base F w' fun F' h' => ∃ v, Rep F' v u ∧ K v h'
  | .ok .skip w' => Seen base F w' fun F' h' => ∃ v, Rep F' v undef ∧ K v h'
  | .ok (.enter f args) w' => Calls P f args w' (Back base F K KP)
  | .ok (.round l f tmps assign body) w' => RoundIn (Fw none) 0 P l f tmps assign body w' (Back base F K KP)
  | .halt (.panic v) w' => Seen base F w' fun _ h' => KP [{ v, recovered := false }] h'
  | _ => False

def VOp (P : Program) (o : Oper) (ρ : Operand → V) (h : Hp) (K : V → Hp → Prop) (KP : List PanicEntry → Hp → Prop) : Prop :=
  ∀ (base : World) (F : Fro) (w : World) (ρ' : Operand → Value), Sim base F h w → (∀ x ∈ o.op.operands, Rep F (ρ x) (ρ' x)) → VOut P base F K KP ((execOp ρ' o).run P w)

theorem VOut.mono {P : Program} {base : World} {F : Fro} {K K' : V → Hp → Prop} {KP KP' : List PanicEntry → Hp → Prop} (hk : ∀ v h, K v h → K' v h) (hp : ∀ c h, KP c h → KP' c h) {r : Result Next} (h : VOut P base F K KP r) : VOut P base F K' KP' r := by
  cases r with
  | ok n w =>
    cases n <;> first
      | exact Seen.mono h fun _ _ ⟨v, a, b⟩ => ⟨v, a, hk _ _ b⟩
      | exact Calls.mono h fun _ _ x => Back.mono hk hp x
      | exact RoundIn.mono h fun _ _ x => Back.mono hk hp x
      | exact h
  | halt x w => cases x <;> first | exact Seen.mono h fun _ _ a => hp _ _ a | exact h

theorem VOp.mono {P : Program} {o : Oper} {ρ : Operand → V} {h : Hp} {K K' : V → Hp → Prop} {KP KP' : List PanicEntry → Hp → Prop} (ho : VOp P o ρ h K KP) (hk : ∀ v h, K v h → K' v h) (hp : ∀ c h, KP c h → KP' c h) : VOp P o ρ h K' KP' :=
  fun base F w ρ' hs hr => (ho base F w ρ' hs hr).mono hk hp

theorem VOp.congr {P : Program} {o : Oper} {ρ ρ2 : Operand → V} {h : Hp} {K : V → Hp → Prop} {KP : List PanicEntry → Hp → Prop} (he : ∀ x ∈ o.op.operands, ρ x = ρ2 x) (ho : VOp P o ρ h K KP) : VOp P o ρ2 h K KP :=
  fun base F w ρ' hs hr => ho base F w ρ' hs fun x hx => by rw [he x hx]; exact hr x hx

/-- What is asked of code, seen. -/
def Lift (base : World) (F : Fro) (Q : Exit → VAct → Hp → Prop) : Exit → Act → World → Prop :=
  fun e act' w' => Seen base F w' fun F' h' => ∃ a', RepAct F' a' act' ∧ Q e a' h'

def VW (P : Program) (r : Option Nat) (c : Code) (Q : Exit → VAct → Hp → Prop) (a : VAct) (h : Hp) : Prop :=
  ∀ (base : World) (F : Fro) (act : Act) (w : World), Sim base F h w → RepAct F a act → c.wpIn (Fw r) 0 P (Lift base F Q) act w

section
variable {P : Program} {r : Option Nat} {Q Q' : Exit → VAct → Hp → Prop} {a : VAct} {h : Hp}

theorem Lift.mono {base : World} {F : Fro} (hq : ∀ e a h, Q e a h → Q' e a h) {e : Exit} {act : Act} {w : World} (hl : Lift base F Q e act w) : Lift base F Q' e act w :=
  Seen.mono hl fun _ _ ⟨a', x, y⟩ => ⟨a', x, hq _ _ _ y⟩

theorem Lift.from {base : World} {F G : Fro} (hF : FLe F G) {e : Exit} {act : Act} {w : World} (hl : Lift base G Q e act w) : Lift base F Q e act w := Seen.from hl hF

theorem Lift.mk {base : World} {F : Fro} {act : Act} {w : World} {e : Exit} (hs : Sim base F h w) (ha : RepAct F a act) (hq : Q e a h) : Lift base F Q e act w :=
  ⟨F, h, FLe.refl F, hs, a, ha, hq⟩

theorem VW.mono {c : Code} (hc : VW P r c Q a h) (hq : ∀ e a h, Q e a h → Q' e a h) : VW P r c Q' a h :=
  fun base F act w hs ha => wpIn_mono (hc base F act w hs ha) fun _ _ _ => Lift.mono hq

theorem vw_skip (hq : Q .normal a h) : VW P r .skip Q a h := fun _ _ _ _ hs ha => wpIn_skip (.mk hs ha hq)
theorem vw_label {l : Nat} (hq : Q .normal a h) : VW P r (.label l) Q a h := fun _ _ _ _ hs ha => wpIn_label (.mk hs ha hq)
theorem vw_exit {id : Nat} (hq : Q (.exit id) a h) : VW P r (.exit id) Q a h := fun _ _ _ _ hs ha => wpIn_exit (.mk hs ha hq)
theorem vw_goto {l : Nat} (hq : Q (.goto l) a h) : VW P r (.goto l) Q a h := fun _ _ _ _ hs ha => wpIn_goto (.mk hs ha hq)
theorem vw_ret (hq : Q .ret a h) : VW P r .ret Q a h := fun _ _ _ _ hs ha => wpIn_ret (.mk hs ha hq)

def Thn (K : VAct → Hp → Prop) (Q : Exit → VAct → Hp → Prop) : Exit → VAct → Hp → Prop
  | .normal, a, h => K a h
  | e, a, h => Q e a h

theorem vw_seq {x y : Code} (hx : VW P r x (Thn (VW P r y Q) Q) a h) : VW P r (.seq x y) Q a h := by
  intro base F act w hs ha
  refine wpIn_seq (wpIn_mono (hx base F act w hs ha) ?_)
  rintro e act' w' ⟨F', h', hF, hs', a', ha', hq⟩
  cases e with
  | normal => exact wpIn_mono (hq base F' act' w' hs' ha') fun _ _ _ hl => Lift.from hF hl
  | _ => exact ⟨F', h', hF, hs', a', ha', hq⟩

theorem vw_cond {c : Operand} {x y : Code} {b : Bool} (hc : a.eval c = .v (.bool b)) (hx : b = true → VW P r x Q a h) (hy : b = false → VW P r y Q a h) : VW P r (.cond c x y) Q a h := by
  intro base F act w hs ha
  have he : act.eval c = .bool b := by
    have := ha.eval c
    rw [hc] at this
    exact this.lit
  exact wpIn_cond_split he (fun hb => hx hb base F act w hs ha) (fun hb => hy hb base F act w hs ha)

def InBlock (id : Nat) (Q : Exit → VAct → Hp → Prop) : Exit → VAct → Hp → Prop
  | .exit id', a, h => if id' = id then Q .normal a h else Q (.exit id') a h
  | e, a, h => Q e a h

theorem vw_block {id : Nat} {c : Code} (hc : VW P r c (InBlock id Q) a h) : VW P r (.block id c) Q a h := by
  intro base F act w hs ha
  refine wpIn_block (wpIn_mono (hc base F act w hs ha) ?_)
  rintro e act' w' ⟨F', h', hF, hs', a', ha', hq⟩
  cases e with
  | exit id' =>
    by_cases hid : id' = id
    · simp only [InBlock, hid, if_true] at hq
      simp only [Exit.inBlock, hid, if_true]
      exact ⟨F', h', hF, hs', a', ha', hq⟩
    · simp only [InBlock, hid, if_false] at hq
      simp only [Exit.inBlock, hid, if_false]
      exact ⟨F', h', hF, hs', a', ha', hq⟩
  | _ => exact ⟨F', h', hF, hs', a', ha', hq⟩

/-- What is seen may be seen as less. -/
theorem vw_weak {c : Code} {a2 : VAct} (hl : VLeL a.tmps a2.tmps) (hd : a.rest = a2.rest) (hc : VW P r c Q a2 h) : VW P r c Q a h := by
  obtain ⟨hd1, hd2⟩ : a.defers = a2.defers ∧ a.start = a2.start := by simpa [VAct.rest] using hd
  exact fun base F act w hs ha => hc base F act w hs ⟨ha.tmps.weak hl, hd1 ▸ ha.defers, hd2 ▸ ha.start, hd1 ▸ hd2 ▸ ha.marks⟩

theorem Sim.less {base : World} {F : Fro} {h h2 : Hp} {w : World} (hs : Sim base F h w) (hl : h2.Sublist h) : Sim base F h2 w :=
  ⟨hs.below, hs.fro, hs.adr, hs.inj, hs.fresh, List.Nodup.sublist (hl.map _) hs.nodup, fun g c hc => hs.own g c (hl.subset hc), hs.typ⟩

theorem Sim.perm {base : World} {F : Fro} {h h2 : Hp} {w : World} (hs : Sim base F h w) (hl : h2.Perm h) : Sim base F h2 w :=
  ⟨hs.below, hs.fro, hs.adr, hs.inj, hs.fresh, (hl.map _).nodup_iff.2 hs.nodup, fun g c hc => hs.own g c (hl.subset hc), hs.typ⟩

theorem vw_less {c : Code} {h2 : Hp} (hl : h2.Sublist h) (hc : VW P r c Q a h2) : VW P r c Q a h :=
  fun base F act w hs ha => hc base F act w (hs.less hl) ha

theorem VCalls.less {f : FuncId} {args : List V} {h h2 : Hp} {R : V → Hp → Prop} {RP : List PanicEntry → Hp → Prop} (hl : h2.Sublist h) (hc : VCalls P f args h2 R RP) : VCalls P f args h R RP :=
  ⟨hc.1, fun base F args' w hs ha => hc.2 base F args' w (hs.less hl) ha⟩

theorem VCalls.perm {f : FuncId} {args : List V} {h h2 : Hp} {R : V → Hp → Prop} {RP : List PanicEntry → Hp → Prop} (hl : h2.Perm h) (hc : VCalls P f args h2 R RP) : VCalls P f args h R RP :=
  ⟨hc.1, fun base F args' w hs ha => hc.2 base F args' w (hs.perm hl) ha⟩

/-- A loop: what holds at each round's head, and what each round lowers. -/
theorem vw_loop {c : Code} (I : VAct → Hp → Prop) (μ : VAct → Hp → Nat) (h0 : I a h)
    (round : ∀ a h, I a h → VW P r c (Thn (fun a' h' => I a' h' ∧ μ a' h' < μ a h) Q) a h) : VW P r (.loop c) Q a h := by
  intro base F act w hs ha
  -- by the measure, over the machine's states: the least measure of what is seen
  let J : Act → World → Prop := fun act w => ∃ F' h' a', FLe F F' ∧ Sim base F' h' w ∧ RepAct F' a' act ∧ I a' h'
  let M : Act → World → Nat → Prop := fun act w n => ∃ F' h' a', FLe F F' ∧ Sim base F' h' w ∧ RepAct F' a' act ∧ I a' h' ∧ μ a' h' = n
  have hex : ∀ act w, J act w → ∃ n, M act w n := fun act w ⟨F', h', a', x, y, z, i⟩ => ⟨_, F', h', a', x, y, z, i, rfl⟩
  classical
  let ν : Act → World → Nat := fun act w => if hj : ∃ n, M act w n then (exists_least hj).choose else 0
  refine wpIn_loop J ν ⟨F, h, a, FLe.refl F, hs, ha, h0⟩ ?_
  intro act1 w1 hJ
  have hn : ∃ n, M act1 w1 n := hex _ _ hJ
  have hν : ν act1 w1 = (exists_least hn).choose := dif_pos hn
  obtain ⟨⟨F1, h1, a1, hF1, hs1, ha1, hI1, hm1⟩, _⟩ := (exists_least hn).choose_spec
  refine wpIn_mono (round a1 h1 hI1 base F1 act1 w1 hs1 ha1) ?_
  rintro e act2 w2 ⟨F2, h2, hF2, hs2, a2, ha2, hq⟩
  cases e with
  | normal =>
    obtain ⟨hI2, hlt⟩ := hq
    have hM2 : M act2 w2 (μ a2 h2) := ⟨F2, h2, a2, hF1.trans hF2, hs2, ha2, hI2, rfl⟩
    refine ⟨⟨F2, h2, a2, hF1.trans hF2, hs2, ha2, hI2⟩, ?_⟩
    have hn2 : ∃ n, M act2 w2 n := ⟨_, hM2⟩
    have hν2 : ν act2 w2 = (exists_least hn2).choose := dif_pos hn2
    rw [hν, hν2, ← hm1]
    exact Nat.lt_of_le_of_lt ((exists_least hn2).choose_spec.2 _ hM2) hlt
  | _ => exact ⟨F2, h2, hF1.trans hF2, hs2, a2, ha2, hq⟩
end

end Go.XW
