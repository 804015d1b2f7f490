/- The regions: those in the text's order, and those that draw their order: one walk serves every order. -/
import Derived.Test.YtpiicncihccheaaGreatDoorX1
namespace Go.XW
open Go.RowKit

/-- Does the guard let the operation run? -/
def vwant (ops : List Oper) (o : Oper) (a : VAct) : Option Bool :=
  match o.guard with
  | none => some true
  | some (j, want) =>
    match (ops[j]?).bind (·.dst) with
    | some t => match a.tmps[t]? with
      | some (.v (.bool b)) => some (b == want)
      | some (.v (.tuple _)) => some false
      | _ => none
    | none => none

theorem vwant_real {F : Fro} {ops : List Oper} {o : Oper} {a : VAct} {act : Act} {b : Bool} (ha : RepAct F a act) (h : vwant ops o a = some b) : Region.wanted o (yielded ops.toArray act.tmps) = b := by
  unfold vwant at h
  unfold Region.wanted
  cases hg : o.guard with
  | none => rw [hg] at h; simpa using h
  | some gw =>
    obtain ⟨j, want⟩ := gw
    rw [hg] at h
    dsimp only at h ⊢
    unfold yielded
    rw [List.getElem?_toArray]
    cases hd : (ops[j]?).bind (·.dst) with
    | none => rw [hd] at h; simp at h
    | some t =>
      rw [hd] at h
      dsimp only at h
      cases ht : a.tmps[t]? with
      | none => rw [ht] at h; simp at h
      | some x =>
        rw [ht] at h
        obtain ⟨u, hu, hr⟩ := ha.tmps.get ht
        have hu' : act.tmps[t]? = some u := by simpa using hu
        cases x <;> try (simp at h; done)
        rename_i xv
        cases xv <;> try (simp at h; done)
        · rename_i b'
          have := hr.lit
          subst this
          simp only [Option.bind_some, hu']
          simp at h
          subst h
          cases b' <;> cases want <;> rfl
        · have := hr.lit
          subst this
          simp only [Option.bind_some, hu']
          simp at h
          subst h
          cases want <;> rfl

def Op.isDefer : Op → Bool
  | .defer _ => true
  | _ => false
def Op.isSelect : Op → Bool
  | .select _ _ => true
  | _ => false
/-- Nothing deferred, no select. -/
def plainOps (ops : Array Oper) : Bool := ops.all fun o => !Op.isDefer o.op && !Op.isSelect o.op

def plainL (l : List Oper) : Bool := l.all fun o => !Op.isDefer o.op && !Op.isSelect o.op

theorem plain_of {l : List Oper} (h : plainL l = true) : plainOps l.toArray = true := by
  unfold plainOps
  unfold plainL at h
  simpa using h

theorem plain_at {ops : Array Oper} (hp : plainOps ops = true) {i : Nat} {o : Oper} (ho : ops[i]? = some o) : (∀ c, o.op ≠ .defer c) ∧ (∀ cs b, o.op ≠ .select cs b) := by
  have hm : o ∈ ops := Array.mem_of_getElem? ho
  have := Array.all_eq_true_iff_forall_mem.1 hp o hm
  constructor
  · intro c hc; rw [hc] at this; simp [Op.isDefer] at this
  · intro cs b hc; rw [hc] at this; simp [Op.isSelect] at this

theorem calls_in {P : Program} {r : Option Nat} {f : FuncId} {args : Array Value} {w : World} {R : Ending → World → Prop} (h : Calls P f args w R) : CallsIn (Fw r) 0 P f args w R := by
  have h' : CallsIn Fence.wide 0 P f args w R := callsIn_wide.2 h
  exact h'

theorem round_in {P : Program} {r : Option Nat} {l : Nat} {f : FuncId} {tmps : Array Value} {assign body : Code} {w : World} {R : Ending → World → Prop} (h : RoundIn (Fw none) 0 P l f tmps assign body w R) : RoundIn (Fw r) 0 P l f tmps assign body w R := h

/-- One operation, at the machine. -/
theorem oper_real {P : Program} {r : Option Nat} {o : Oper} {a : VAct} {h : Hp} {K : V → Hp → Prop} {KP : List PanicEntry → Hp → Prop} (hd : ∀ c, o.op ≠ .defer c) (ho : VOp P o a.eval h K KP)
    {base : World} {F : Fro} {act : Act} {w : World} (hs : Sim base F h w) (ha : RepAct F a act)
    {next : Act → World → Prop} {Q : Exit → Act → World → Prop}
    (hk : ∀ F' h' v u w', FLe F F' → Sim base F' h' w' → Rep F' v u → K v h' → next (act.put o.dst u) w')
    (hp : ∀ F' h' ch w', FLe F F' → Sim base F' h' w' → KP ch h' → Q (.panic ch) act w') : o.wpIn (Fw r) 0 P act w next Q := by
  refine ⟨fun _ _ => trivial, ?_⟩
  rw [Oper.semAt_eq _ _ _ hd]
  have hv := ho base F w act.eval hs (fun x _ => ha.eval x)
  generalize (execOp act.eval o).run P w = res at hv
  cases res with
  | ok n w' =>
    cases n <;> simp only [VOut] at hv <;> first
      | exact hv.elim
      | (obtain ⟨F', h', hF, hs', v, hr, hK⟩ := hv; exact hk F' h' v _ w' hF hs' hr hK)
      | skip
    · refine ⟨fun hx => by simp [Fw, Fence.wide] at hx, ?_⟩
      refine calls_in (hv.mono ?_)
      rintro (u | ch | _) w'' hb
      · obtain ⟨F', h', hF, hs', v, hr, hK⟩ := hb; exact hk F' h' v u w'' hF hs' hr hK
      · obtain ⟨F', h', hF, hs', hK⟩ := hb; exact hp F' h' ch w'' hF hs' hK
      · exact hb.elim
    · refine ⟨fun hx => by simp [Fw, Fence.wide] at hx, ?_⟩
      refine RoundIn.mono (round_in hv) ?_
      rintro (u | ch | _) w'' hb
      · obtain ⟨F', h', hF, hs', v, hr, hK⟩ := hb; exact hk F' h' v u w'' hF hs' hr hK
      · obtain ⟨F', h', hF, hs', hK⟩ := hb; exact hp F' h' ch w'' hF hs' hK
      · exact hb.elim
  | halt x w' =>
    cases x <;> simp only [VOut] at hv <;> first
      | exact hv.elim
      | skip
    obtain ⟨F', h', hF, hs', hK⟩ := hv
    exact hp F' h' _ w' hF hs' hK

section
variable (P : Program) (ops : List Oper) (K : VAct → Hp → Prop) (KP : List PanicEntry → Hp → Prop)

/-- In the text's order. -/
def VSeq : List Oper → VAct → Hp → Prop
  | [], a, h => K a h
  | o :: rest, a, h =>
    match vwant ops o a with
    | some true => VOp P o a.eval h (fun v h' => VSeq rest (a.put o.dst v) h') KP
    | some false => VSeq rest (a.put o.dst (.v undef)) h
    | none => False

/-- One value, and the heap as it was. -/
def VRead (o : Oper) (ρ : Operand → V) (h : Hp) (v : V) : Prop := VOp P o ρ h (fun v' h' => v' = v ∧ h' = h) (fun _ _ => False)

/-- The classes: 0: looks at no block of the call's own; 1: changes none; 2: any. -/
def VStep (x : Nat × Nat) (C : V → Hp → Prop) (a : VAct) (h : Hp) : Prop :=
  match ops[x.1]? with
  | none => False
  | some o =>
    match vwant ops o a with
    | some true => match x.2 with
      | 0 => ∃ v, (∀ h, VRead P o a.eval h v) ∧ C v h
      | 1 => ∃ v, VRead P o a.eval h v ∧ C v h
      | _ => VOp P o a.eval h C KP
    | some false => C (.v undef) h
    | none => False

def dstOf (i : Nat) : Option Tmp := (ops[i]?).bind (·.dst)

def VWalk : List (Nat × Nat) → VAct → Hp → Prop
  | [], a, h => K a h
  | x :: rest, a, h => VStep P ops KP x (fun v h' => VWalk rest (a.put (dstOf ops x.1) v) h') a h
end

section
variable {P : Program} {r : Option Nat} {Q : Exit → VAct → Hp → Prop} {a : VAct} {h : Hp} {ops : List Oper} {KP : List PanicEntry → Hp → Prop}

theorem vput_rest (a : VAct) (d : Option Tmp) (v : V) : (a.put d v).rest = a.rest := by cases d <;> rfl

theorem seq_real {base : World} {F : Fro} {ds : List Deferred × Fro} (hQ : ∀ ch a h, a.rest = ds → KP ch h → Q (.panic ch) a h) (hpl : plainOps ops.toArray = true) : ∀ (k : Nat) (l : List Oper), ops.length = k + l.length → (∀ i, l[i]? = ops[k + i]?) → ∀ (G : Fro) (a : VAct) (h : Hp) (act : Act) (w : World), FLe F G → Sim base G h w → RepAct G a act → a.rest = ds →
    VSeq P ops (fun a h => Q .normal a h) KP l a h → wpOpsIn (Fw r) 0 P ops.toArray (Lift base F Q) ((List.range l.length).map (k + ·)) act w := by
  intro k l
  induction l generalizing k with
  | nil => intro _ _ G a h act w hF hs ha hds hv; exact ⟨G, h, hF, hs, a, ha, hv⟩
  | cons o rest ih =>
    intro hsz hl G a h act w hF hs ha hds hv
    have ho : ops[k]? = some o := by have := hl 0; simpa using this.symm
    have hoA : ops.toArray[k]? = some o := by simpa using ho
    have ih' := ih (k + 1) (by simp at hsz; omega) (fun i => by have := hl (i + 1); simpa [Nat.add_assoc, Nat.add_comm 1 i] using this)
    have hrange : (List.range (o :: rest).length).map (k + ·) = k :: (List.range rest.length).map (k + 1 + ·) := by
      rw [List.length_cons, List.range_succ_eq_map, List.map_cons, List.map_map]
      simp [Function.comp_def, Nat.add_assoc, Nat.add_comm 1]
    rw [hrange, wpOpsIn_cons]
    unfold wpOpIn
    rw [hoA]
    unfold VSeq at hv
    cases hw : vwant ops o a with
    | none => rw [hw] at hv; exact hv.elim
    | some b =>
      rw [hw] at hv
      have hreal := vwant_real ha hw
      cases b with
      | true =>
        simp only [hreal, if_true]
        refine oper_real (plain_at hpl hoA).1 hv hs ha ?_ ?_
        · intro F' h' v u w' hF' hs' hr hK
          exact ih' F' _ h' _ w' (hF.trans hF') hs' ((ha.mono hF').put o.dst hr) ((vput_rest _ _ _).trans hds) hK
        · intro F' h' ch w' hF' hs' hK
          exact ⟨F', h', hF.trans hF', hs', a, ha.mono hF', hQ _ _ _ hds hK⟩
      | false =>
        simp only [hreal, Bool.false_eq_true, if_false]
        exact ⟨fun _ _ => trivial, ih' G _ h _ w hF hs (ha.put o.dst (.v undef)) ((vput_rest _ _ _).trans hds) hv⟩

/-- A region in the text's order. -/
theorem vw_region {id : Nat} {l : List Oper} {ds : List Deferred × Fro} (hds : a.rest = ds) (hpl : plainL l = true) (hQ : ∀ ch a h, a.rest = ds → KP ch h → Q (.panic ch) a h)
    (hv : VSeq P l (fun a h => Q .normal a h) KP l a h) : VW P r (.region id l.toArray false) Q a h := by
  intro base F act w hs ha
  refine wpIn_region ?_
  have := seq_real (r := r) (F := F) hQ (plain_of hpl) 0 l (by simp) (fun i => by simp) F a h act w (FLe.refl F) hs ha hds hv
  simpa using this

/-! ### Any order -/
def directs (o : Oper) : List Nat := o.after.toList.filterMap fun e => if Region.binds .any e then some e.on else none

/-- D: of each operation those that it hangs on; ord: the walk. -/
def chkD (l : List Oper) (D : List (List Nat)) : Bool :=
  (List.range l.length).all fun j => (D.getD j []).all fun i =>
    match l[j]? with
    | none => false
    | some o => (directs o).any fun k => decide (k < j) && (k == i || (D.getD k []).contains i)

def chkPair (l : List Oper) (D : List (List Nat)) (x y : Nat × Nat) : Bool :=   -- x stands ahead of y in the walk
  match l[x.1]?, l[y.1]? with
  | some ox, some oy =>
    x.1 != y.1 && !(directs ox).contains y.1 && ((D.getD y.1 []).contains x.1 || ((x.2 == 0 || (x.2 == 1 && y.2 <= 1)) && ox.apart l.toArray oy))
  | _, _ => false

def chkOne (l : List Oper) (x : Nat × Nat) : Bool :=
  match l[x.1]? with
  | some ox => !(directs ox).contains x.1
  | none => false

def chkOrd (l : List Oper) (D : List (List Nat)) : List (Nat × Nat) → Bool
  | [] => true
  | x :: rest => rest.all (fun y => chkPair l D x y) && chkOrd l D rest

def chkAll (l : List Oper) (D : List (List Nat)) (ord : List (Nat × Nat)) : Bool :=
  ord.length == l.length && (List.range l.length).all (fun i => ord.any (fun x => x.1 == i)) && l.all (fun o => (directs o).all fun k => decide (k < l.length)) && chkD l D && chkOrd l D ord && ord.all (chkOne l)

def Shut (ops : Array Oper) (listed : Array Bool) : Prop := ∀ i o, listed.getD i false = true → ops[i]? = some o → ∀ k ∈ directs o, listed.getD k false = true

theorem dep_listed {l : List Oper} {D : List (List Nat)} (hD : chkD l D = true) {listed : Array Bool} (hs : Shut l.toArray listed) : ∀ (j : Nat) (o : Oper), l[j]? = some o → (∀ k ∈ directs o, listed.getD k false = true) → ∀ i ∈ D.getD j [], listed.getD i false = true := by
  intro j
  induction j using Nat.strongRecOn with
  | _ j ih =>
    intro o ho hdir i hi
    have hj : j < l.length := by
      rw [List.getElem?_eq_some_iff] at ho; exact ho.1
    have h1 := List.all_eq_true.1 hD j (List.mem_range.2 hj)
    have h2 := List.all_eq_true.1 h1 i hi
    rw [ho] at h2
    dsimp only at h2
    obtain ⟨k, hk, hc⟩ := List.any_eq_true.1 h2
    simp only [Bool.and_eq_true, decide_eq_true_eq, Bool.or_eq_true, beq_iff_eq] at hc
    have hlk := hdir k hk
    rcases hc.2 with rfl | hm
    · exact hlk
    · have hkl : k < l.length := Nat.lt_trans hc.1 hj
      have hok : l[k]? = some l[k] := List.getElem?_eq_getElem hkl
      exact ih k hc.1 l[k] hok (hs k l[k] hlk (by simp)) i (List.contains_iff_mem.1 hm)

theorem vwant_put {ops : List Oper} {o : Oper} {a : VAct} {dst : Option Tmp} {v : V} (h : ∀ d, dst = some d → d ∉ o.looksAt ops.toArray) : vwant ops o (a.put dst v) = vwant ops o a := by
  unfold vwant
  cases hg : o.guard with
  | none => rfl
  | some gw =>
    obtain ⟨j, want⟩ := gw
    dsimp only
    cases hd : (ops[j]?).bind (·.dst) with
    | none => rfl
    | some t =>
      dsimp only
      cases dst with
      | none => rfl
      | some d =>
        have hne : d ≠ t := fun e => h d rfl (by
          unfold Oper.looksAt
          refine List.mem_append_right _ ?_
          rw [hg]
          simp [hd, e])
        simp [VAct.put, List.getElem?_set_ne hne]

theorem veval_put {ops : Array Oper} {o : Oper} {a : VAct} {dst : Option Tmp} {v : V} (h : ∀ d, dst = some d → d ∉ o.looksAt ops) : ∀ x ∈ o.op.operands, (a.put dst v).eval x = a.eval x := by
  intro x hx
  cases dst with
  | none => rfl
  | some d =>
    cases x with
    | tmp t =>
      have hne : d ≠ t := fun e => h d rfl (by
        unfold Oper.looksAt
        refine List.mem_append_left _ (List.mem_filterMap.2 ⟨.tmp d, ?_, rfl⟩)
        rw [e]; simpa using hx)
      simp [VAct.eval, VAct.put, List.getD, List.getElem?_set_ne hne]
    | _ => rfl

theorem vput_comm (a : VAct) {x y : Option Tmp} (v u : V) (h : ∀ d, x = some d → y ≠ some d) : (a.put x v).put y u = (a.put y u).put x v := by
  cases x with
  | none => rfl
  | some d =>
    cases y with
    | none => rfl
    | some e =>
      have hne : d ≠ e := fun he => h d rfl (he ▸ rfl)
      simp [VAct.put, List.set_comm _ _ hne]

theorem VStep.mono {x : Nat × Nat} {C C' : V → Hp → Prop} (hc : ∀ v h, C v h → C' v h) (hv : VStep P ops KP x C a h) : VStep P ops KP x C' a h := by
  unfold VStep at *
  split
  · rename_i he; rw [he] at hv; exact hv
  · rename_i o ho
    rw [ho] at hv
    dsimp only at hv
    split
    · rename_i hw
      rw [hw] at hv
      dsimp only at hv
      split
      · rename_i h2; rw [h2] at hv; obtain ⟨v, q, c⟩ := hv; exact ⟨v, q, hc _ _ c⟩
      · rename_i h2; rw [h2] at hv; obtain ⟨v, q, c⟩ := hv; exact ⟨v, q, hc _ _ c⟩
      · rename_i h0 h1
        split at hv
        · rename_i h2; exact absurd h2 h0
        · rename_i h2; exact absurd h2 h1
        · exact hv.mono hc fun _ _ h => h
    · rename_i hw; rw [hw] at hv; exact hc _ _ hv
    · rename_i hw; rw [hw] at hv; exact hv

/-- What changes no block: the heap is as it was behind it. -/
theorem VStep.mono_at {x : Nat × Nat} {C C' : V → Hp → Prop} (hx : x.2 ≤ 1) (hc : ∀ v, C v h → C' v h) (hv : VStep P ops KP x C a h) : VStep P ops KP x C' a h := by
  unfold VStep at *
  split
  · rename_i he; rw [he] at hv; exact hv
  · rename_i o ho
    rw [ho] at hv
    dsimp only at hv
    split
    · rename_i hw
      rw [hw] at hv
      dsimp only at hv
      split
      · rename_i h2; rw [h2] at hv; obtain ⟨v, q, c⟩ := hv; exact ⟨v, q, hc _ c⟩
      · rename_i h2; rw [h2] at hv; obtain ⟨v, q, c⟩ := hv; exact ⟨v, q, hc _ c⟩
      · rename_i h0 h1
        exfalso
        match h3 : x.2, hx with
        | 0, _ => exact h0 h3
        | 1, _ => exact h1 h3
    · rename_i hw; rw [hw] at hv; exact hc _ hv
    · rename_i hw; rw [hw] at hv; exact hv

theorem VStep.put {x : Nat × Nat} {C : V → Hp → Prop} {dst : Option Tmp} {u : V} {o : Oper} (ho : ops[x.1]? = some o) (hap : ∀ d, dst = some d → d ∉ o.looksAt ops.toArray) (hv : VStep P ops KP x C (a.put dst u) h) : VStep P ops KP x C a h := by
  unfold VStep at *
  rw [ho] at *
  dsimp only at *
  rw [vwant_put hap] at hv
  have he := veval_put (a := a) (v := u) hap
  split
  · rename_i hw
    rw [hw] at hv
    dsimp only at hv
    split
    · rename_i h2; rw [h2] at hv; obtain ⟨v, q, c⟩ := hv; exact ⟨v, fun h => (q h).congr he, c⟩
    · rename_i h2; rw [h2] at hv; obtain ⟨v, q, c⟩ := hv; exact ⟨v, q.congr he, c⟩
    · rename_i h0 h1
      split at hv
      · rename_i h2; exact absurd h2 h0
      · rename_i h2; exact absurd h2 h1
      · exact hv.congr he
  · rename_i hw; rw [hw] at hv; exact hv
  · rename_i hw; rw [hw] at hv; exact hv

/-- An operation that could come next is brought to the front. -/
theorem walk_front {l : List Oper} {D : List (List Nat)} {K : VAct → Hp → Prop} {i ei : Nat} {oi : Oper} (hoi : l[i]? = some oi) :
    ∀ (rem : List (Nat × Nat)), chkOrd l D rem = true → (i, ei) ∈ rem → (∀ y ∈ rem, y.1 ∉ D.getD i []) → ∀ (a : VAct) (h : Hp), VWalk P l K KP rem a h →
      VStep P l KP (i, ei) (fun v h' => VWalk P l K KP (rem.filter (fun y => y.1 != i)) (a.put (dstOf l i) v) h') a h := by
  intro rem
  induction rem with
  | nil => intro _ hm; cases hm
  | cons x rest ih =>
    intro hc hm hdep a h hv
    obtain ⟨j, ej⟩ := x
    simp only [chkOrd, Bool.and_eq_true] at hc
    obtain ⟨hc1, hc2⟩ := hc
    by_cases hij : j = i
    · subst hij
      have hrest : ∀ y ∈ rest, (y.1 != j) = true := fun y hy => by
        have := List.all_eq_true.1 hc1 y hy
        unfold chkPair at this
        split at this
        · simp only [Bool.and_eq_true] at this
          have h1 := this.1.1
          simp at h1 ⊢
          exact fun e => h1 e.symm
        · simp at this
      have hei : ej = ei := by
        rcases List.mem_cons.1 hm with he | hr
        · exact (Prod.mk.inj he).2.symm
        · have := hrest _ hr; simp at this
      subst hei
      have hf : ((j, ej) :: rest).filter (fun y => y.1 != j) = rest := by
        rw [List.filter_cons_of_neg (by simp)]
        exact List.filter_eq_self.2 hrest
      rw [hf]
      exact hv
    · have hmr : (i, ei) ∈ rest := by
        rcases List.mem_cons.1 hm with he | hr
        · exact absurd (Prod.mk.inj he).1.symm hij
        · exact hr
      have hpair := List.all_eq_true.1 hc1 _ hmr
      unfold chkPair at hpair
      rw [hoi] at hpair
      cases hoj : l[j]? with
      | none => rw [hoj] at hpair; simp at hpair
      | some oj =>
        rw [hoj] at hpair
        simp only [Bool.and_eq_true, Bool.or_eq_true] at hpair
        have hnd : (D.getD i []).contains j = false := by
          cases hcn : (D.getD i []).contains j with
          | false => rfl
          | true => exact absurd (List.contains_iff_mem.1 hcn) (hdep _ (List.mem_cons_self))
        have hrest := hpair.2
        rw [hnd] at hrest
        simp at hrest
        obtain ⟨hej, hap⟩ := hrest
        obtain ⟨h1, h2, h3⟩ := Oper.apart_spec hap
        have hfil : ((j, ej) :: rest).filter (fun y => y.1 != i) = (j, ej) :: rest.filter (fun y => y.1 != i) := List.filter_cons_of_pos (by simpa using hij)
        rw [hfil]
        have hdj : dstOf l j = oj.dst := by simp [dstOf, hoj]
        have hdi : dstOf l i = oi.dst := by simp [dstOf, hoi]
        -- what follows the first operation, whichever way it goes
        have key : ∀ u, VWalk P l K KP rest (a.put oj.dst u) h →
            VStep P l KP (i, ei) (fun v h' => VWalk P l K KP (rest.filter (fun y => y.1 != i)) ((a.put oi.dst v).put oj.dst u) h') a h := by
          intro u hw
          have := ih hc2 hmr (fun y hy => hdep y (List.mem_cons_of_mem _ hy)) (a.put oj.dst u) h hw
          have := VStep.put hoi h1 this
          refine this.mono ?_
          rintro v h' hw'
          rw [hdi, vput_comm a u v h2] at hw'
          exact hw'
        have hv0 := hv
        unfold VWalk VStep at hv
        rw [hoj] at hv
        dsimp only at hv
        cases hwj : vwant l oj a with
        | none => rw [hwj] at hv; exact hv.elim
        | some b =>
          rw [hwj] at hv
          cases b with
          | true =>
            dsimp only at hv
            rcases hej with hej | ⟨hej, hei⟩
            · subst hej
              obtain ⟨u, hq, hw⟩ := hv
              rw [hdj] at hw
              refine (key u hw).mono ?_
              rintro v h' hw'
              rw [hdi]
              unfold VWalk VStep
              rw [hoj]
              dsimp only
              rw [vwant_put h3, hwj]
              dsimp only
              refine ⟨u, fun h0 => (hq h0).congr fun x hx => (veval_put h3 x hx).symm, ?_⟩
              rw [hdj]
              exact hw'
            · subst hej
              obtain ⟨u, hq, hw⟩ := hv
              rw [hdj] at hw
              refine (key u hw).mono_at hei ?_
              rintro v hw'
              rw [hdi]
              unfold VWalk VStep
              rw [hoj]
              dsimp only
              rw [vwant_put h3, hwj]
              dsimp only
              refine ⟨u, hq.congr fun x hx => (veval_put h3 x hx).symm, ?_⟩
              rw [hdj]
              exact hw'
          | false =>
            dsimp only at hv
            rw [hdj] at hv
            refine (key _ hv).mono ?_
            rintro v h' hw'
            rw [hdi]
            unfold VWalk VStep
            rw [hoj]
            dsimp only
            rw [vwant_put h3, hwj]
            dsimp only
            rw [hdj]
            exact hw'

theorem step_real {base : World} {F : Fro} {x : Nat × Nat} {C : V → Hp → Prop} {Qr : Exit → Act → World → Prop} {Kr : Act → World → Prop} (hpl : plainOps ops.toArray = true)
    {act : Act} {w : World} (hs : Sim base F h w) (ha : RepAct F a act) (hv : VStep P ops KP x C a h)
    (hk : ∀ F' h' v u w', FLe F F' → Sim base F' h' w' → Rep F' v u → C v h' → Kr (act.put (dstOf ops x.1) u) w')
    (hp : ∀ F' h' ch w', FLe F F' → Sim base F' h' w' → KP ch h' → Qr (.panic ch) act w') : wpOpIn (Fw r) 0 P ops.toArray Qr x.1 Kr act w := by
  unfold VStep at hv
  unfold wpOpIn
  rw [List.getElem?_toArray]
  cases ho : ops[x.1]? with
  | none => rw [ho] at hv; exact hv.elim
  | some o =>
    have hoA : ops.toArray[x.1]? = some o := by simpa using ho
    rw [ho] at hv
    dsimp only at hv ⊢
    have hdo : dstOf ops x.1 = o.dst := by simp [dstOf, ho]
    rw [hdo] at hk
    cases hw : vwant ops o a with
    | none => rw [hw] at hv; exact hv.elim
    | some b =>
      rw [hw] at hv
      have hreal := vwant_real ha hw
      cases b with
      | true =>
        simp only [hreal, if_true]
        dsimp only at hv
        have hread : ∀ v, VRead P o a.eval h v → C v h → o.wpIn (Fw r) 0 P act w Kr Qr := by
          intro v hq hc
          refine oper_real (plain_at hpl hoA).1 hq hs ha ?_ ?_
          · rintro F' h' v' u w' hF' hs' hr ⟨rfl, rfl⟩
            exact hk F' h' v' u w' hF' hs' hr hc
          · intro F' h' ch w' _ _ hf; exact hf.elim
        split at hv
        · obtain ⟨v, hq, hc⟩ := hv; exact hread v (hq h) hc
        · obtain ⟨v, hq, hc⟩ := hv; exact hread v hq hc
        · exact oper_real (plain_at hpl hoA).1 hv hs ha hk hp
      | false =>
        simp only [hreal, Bool.false_eq_true, if_false]
        exact ⟨fun _ _ => trivial, hk F h (.v undef) undef w (FLe.refl F) hs (.v undef) hv⟩

theorem chkOrd_filter {l : List Oper} {D : List (List Nat)} {p : Nat × Nat → Bool} : ∀ {rem : List (Nat × Nat)}, chkOrd l D rem = true → chkOrd l D (rem.filter p) = true := by
  intro rem
  induction rem with
  | nil => intro h; exact h
  | cons x rest ih =>
    intro h
    simp only [chkOrd, Bool.and_eq_true] at h
    rw [List.filter_cons]
    split
    · simp only [chkOrd, Bool.and_eq_true]
      exact ⟨List.all_eq_true.2 fun y hy => List.all_eq_true.1 h.1 y (List.mem_filter.1 hy).1, ih h.2⟩
    · exact ih h.2

theorem any_real {base : World} {F : Fro} {l : List Oper} {D : List (List Nat)} {ds : List Deferred × Fro} (hQ : ∀ ch a h, a.rest = ds → KP ch h → Q (.panic ch) a h) (hpl : plainOps l.toArray = true)
    (hD : chkD l D = true) (hlt : ∀ (j : Nat) (o : Oper), l[j]? = some o → ∀ k ∈ directs o, k < l.length) :
    ∀ (fuel : Nat) (listed : Array Bool) (rem : List (Nat × Nat)), rem.length ≤ fuel → chkOrd l D rem = true → listed.size = l.length → Shut l.toArray listed →
      (∀ i, i < l.length → (listed.getD i false = false ↔ ∃ e, (i, e) ∈ rem)) → (∀ x ∈ rem, x.1 < l.length) → (∀ x ∈ rem, chkOne l x = true) →
      ∀ (G : Fro) (a : VAct) (h : Hp) (act : Act) (w : World), FLe F G → Sim base G h w → RepAct G a act → a.rest = ds → VWalk P l (fun a h => Q .normal a h) KP rem a h →
        wpAnyIn (Fw r) 0 P .any l.toArray (Lift base F Q) fuel listed act w := by
  intro fuel
  induction fuel with
  | zero =>
    intro listed rem hlen hc hsz hsh hlis hrl hone G a h act w hF hs ha hds hv
    have hrem : rem = [] := List.length_eq_zero_iff.1 (Nat.le_zero.1 hlen)
    subst hrem
    refine ⟨?_, G, h, hF, hs, a, ha, hv⟩
    unfold Region.ready
    refine List.filter_eq_nil_iff.2 fun i hi => ?_
    have hil : i < l.length := by simpa using hi
    have : listed.getD i true = true := by
      have h1 : ¬ listed.getD i false = false := fun h => by
        obtain ⟨e, he⟩ := (hlis i hil).1 h
        cases he
      have hi2 : i < listed.size := by omega
      simp only [Array.getD, hi2, dif_pos] at h1 ⊢
      simpa using h1
    simp [this]
  | succ fuel ih =>
    intro listed rem hlen hc hsz hsh hlis hrl hone G a h act w hF hs ha hds hv
    have getD_eq : ∀ i, i < l.length → listed.getD i true = listed.getD i false := fun i hi => by
      have hi2 : i < listed.size := by omega
      simp only [Array.getD, hi2, dif_pos]
    refine ⟨?_, ?_⟩
    · intro hready
      cases rem with
      | nil => exact ⟨G, h, hF, hs, a, ha, hv⟩
      | cons x rest =>
        exfalso
        have hx : x.1 < l.length := hrl x List.mem_cons_self
        have hox : l[x.1]? = some l[x.1] := List.getElem?_eq_getElem hx
        have hmem : x.1 ∈ Region.ready .any l.toArray listed := by
          unfold Region.ready
          refine List.mem_filter.2 ⟨by simpa using hx, ?_⟩
          have hun : listed.getD x.1 false = false := (hlis _ hx).2 ⟨x.2, List.mem_cons_self⟩
          simp only [getD_eq _ hx, hun, Bool.not_false, Bool.true_and]
          have : l.toArray[x.1]? = some l[x.1] := by simp
          rw [this]
          simp only [Option.map_some, Option.getD_some]
          rw [Array.all_eq_true_iff_forall_mem]
          intro e he
          by_cases hb : Region.binds .any e = true
          · have hk : e.on ∈ directs l[x.1] := List.mem_filterMap.2 ⟨e, by simpa using he, by simp [hb]⟩
            have hkl := hlt x.1 _ hox _ hk
            have : listed.getD e.on false = true := by
              cases hld : listed.getD e.on false with
              | true => rfl
              | false =>
                exfalso
                obtain ⟨e2, hm⟩ := (hlis _ hkl).1 hld
                simp only [chkOrd, Bool.and_eq_true] at hc
                rcases List.mem_cons.1 hm with heq | hr
                · -- an operation that hangs on itself
                  have hon : e.on = x.1 := by rw [← heq]
                  have h1 := hone x List.mem_cons_self
                  unfold chkOne at h1
                  rw [hox] at h1
                  simp at h1
                  rw [hon] at hk
                  exact h1 hk
                · have := List.all_eq_true.1 hc.1 _ hr
                  unfold chkPair at this
                  rw [hox] at this
                  split at this
                  · rename_i h1 h2
                    cases h1
                    simp only [Bool.and_eq_true] at this
                    have h3 := this.1.2
                    simp at h3
                    exact h3 hk
                  · simp at this
            simp [this]
          · simp [Bool.eq_false_iff.2 hb]
        rw [hready] at hmem
        cases hmem
    · intro i hi
      unfold Region.ready at hi
      obtain ⟨hil, hr⟩ := List.mem_filter.1 hi
      have hil : i < l.length := by simpa using hil
      simp only [Bool.and_eq_true] at hr
      have hun : listed.getD i false = false := by rw [← getD_eq i hil]; simpa using hr.1
      obtain ⟨e, hm⟩ := (hlis i hil).1 hun
      have hoi : l[i]? = some l[i] := List.getElem?_eq_getElem hil
      have hoiA : l.toArray[i]? = some l[i] := by simp
      have hdir : ∀ k ∈ directs l[i], listed.getD k false = true := by
        intro k hk
        obtain ⟨ed, hed, hk2⟩ := List.mem_filterMap.1 hk
        have h2 := hr.2
        rw [hoiA] at h2
        simp only [Option.map_some, Option.getD_some] at h2
        have := Array.all_eq_true_iff_forall_mem.1 h2 ed (by simpa using hed)
        split at hk2
        · rename_i hb
          simp only [Option.some.injEq] at hk2
          subst hk2
          simpa [hb] using this
        · cases hk2
      have hdep : ∀ y ∈ rem, y.1 ∉ D.getD i [] := fun y hy hmem => by
        have h1 := dep_listed hD hsh i l[i] hoi hdir _ hmem
        have h2 := (hlis y.1 (hrl y hy)).2 ⟨y.2, hy⟩
        rw [h1] at h2
        cases h2
      have hst := walk_front (P := P) (KP := KP) hoi rem hc hm hdep a h hv
      refine step_real (x := (i, e)) hpl hs ha hst ?_ ?_
      · rintro F' h' v u w' hF' hs' hrp hw'
        refine ih (listed.setIfInBounds i true) (rem.filter (fun y => y.1 != i)) ?_ (chkOrd_filter hc) (by simpa using hsz) ?_ ?_ ?_ ?_ F' _ h' _ w' (hF.trans hF') hs' ((ha.mono hF').put _ hrp) ((vput_rest _ _ _).trans hds) hw'
        · have : (rem.filter (fun y => y.1 != i)).length < rem.length := by
            refine List.length_filter_lt_length_iff_exists.2 ⟨(i, e), hm, by simp⟩
          omega
        · intro j o hj hoj k hk
          by_cases hji : j = i
          · subst hji
            rw [hoiA] at hoj
            cases hoj
            have := hdir k hk
            by_cases hkj : k = j
            · subst hkj; rw [hun] at this; cases this
            · simp only [Array.getD_eq_getD_getElem?, Array.getElem?_setIfInBounds] at this ⊢
              rw [if_neg (fun h => hkj h.symm)]
              exact this
          · have hj' : listed.getD j false = true := by
              simp only [Array.getD_eq_getD_getElem?, Array.getElem?_setIfInBounds] at hj ⊢
              rw [if_neg (fun h => hji h.symm)] at hj
              exact hj
            have := hsh j o hj' hoj k hk
            by_cases hki : k = i
            · subst hki; rw [hun] at this; cases this
            · simp only [Array.getD_eq_getD_getElem?, Array.getElem?_setIfInBounds] at this ⊢
              rw [if_neg (fun h => hki h.symm)]
              exact this
        · intro j hj
          by_cases hji : j = i
          · subst hji
            constructor
            · intro h
              exfalso
              simp only [Array.getD_eq_getD_getElem?, Array.getElem?_setIfInBounds] at h
              have : j < listed.size := by omega
              simp [this] at h
            · rintro ⟨e2, he2⟩
              have := (List.mem_filter.1 he2).2
              simp at this
          · have heq : (listed.setIfInBounds i true).getD j false = listed.getD j false := by
              simp only [Array.getD_eq_getD_getElem?, Array.getElem?_setIfInBounds]
              rw [if_neg (fun h => hji h.symm)]
            rw [heq, hlis j hj]
            constructor
            · rintro ⟨e2, he2⟩; exact ⟨e2, List.mem_filter.2 ⟨he2, by simpa using hji⟩⟩
            · rintro ⟨e2, he2⟩; exact ⟨e2, (List.mem_filter.1 he2).1⟩
        · intro x hx; exact hrl x (List.mem_filter.1 hx).1
        · intro x hx; exact hone x (List.mem_filter.1 hx).1
      · intro F' h' ch w' hF' hs' hK
        exact ⟨F', h', hF.trans hF', hs', a, ha.mono hF', hQ _ _ _ hds hK⟩

/-- A region that draws its order. -/
theorem vw_region_draw {id : Nat} {l : List Oper} {ds : List Deferred × Fro} (hds : a.rest = ds) (D : List (List Nat)) (ord : List (Nat × Nat)) (hm : P.follows .mixedOrders = true) (hpl : plainL l = true) (hchk : chkAll l D ord = true)
    (hQ : ∀ ch a h, a.rest = ds → KP ch h → Q (.panic ch) a h) (hv : VWalk P l (fun a h => Q .normal a h) KP ord a h) : VW P r (.region id l.toArray true) Q a h := by
  intro base F act w hs ha
  refine wpIn_region_any hm ?_
  unfold chkAll at hchk
  simp only [Bool.and_eq_true, beq_iff_eq] at hchk
  obtain ⟨⟨⟨⟨⟨h1, h2⟩, h3⟩, h4⟩, h5⟩, h6⟩ := hchk
  have hs' : Sim base F h { w with drawn := w.drawn + 1 } := ⟨⟨hs.below.os, hs.below.tape, hs.below.output, hs.below.size, hs.below.block⟩, hs.fro, hs.adr, hs.inj, hs.fresh, hs.nodup, fun g c hc => by
    have := hs.own g c hc
    cases c with
    | blk sz es => exact this
    | obj o => exact this
    | lp N f r => exact this
    | tab g vs => exact this, hs.typ⟩
  have hone : ∀ x ∈ ord, chkOne l x = true := fun x hx => List.all_eq_true.1 h6 x hx
  have hrl : ∀ x ∈ ord, x.1 < l.length := fun x hx => by
    have := hone x hx
    unfold chkOne at this
    cases hx2 : l[x.1]? with
    | none => rw [hx2] at this; simp at this
    | some o => exact (List.getElem?_eq_some_iff.1 hx2).1
  refine any_real (r := r) (F := F) hQ (plain_of hpl) h4 ?_ _ _ ord ?_ h5 ?_ ?_ ?_ hrl hone F a h act _ (FLe.refl F) hs' ha hds hv
  · intro j o ho k hk
    have := List.all_eq_true.1 h3 o (List.mem_of_getElem? ho)
    simpa using List.all_eq_true.1 this k hk
  · simp [h1]
  · simp
  · intro i o hi
    exfalso
    simp [Array.getD_eq_getD_getElem?, Array.getElem?_replicate] at hi
    split at hi <;> simp at hi
  · intro i hi
    constructor
    · intro _
      have := List.all_eq_true.1 h2 i (List.mem_range.2 hi)
      obtain ⟨x, hx, he⟩ := List.any_eq_true.1 this
      simp at he
      exact ⟨x.2, by rw [← he]; exact hx⟩
    · intro _
      simp [Array.getD_eq_getD_getElem?, Array.getElem?_replicate]
      split <;> rfl
end
end Go.XW
