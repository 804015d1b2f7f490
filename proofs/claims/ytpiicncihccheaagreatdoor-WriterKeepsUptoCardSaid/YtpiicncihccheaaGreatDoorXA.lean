/- Stores, what is made, appends, calls: shown against the machine. -/
import Derived.Test.YtpiicncihccheaaGreatDoorX9
set_option linter.unusedVariables false
namespace Go.XW
open Go.RowKit

section
variable {P : Program}
theorem run_storeCells_own (g : Nat) : ∀ (vs : List Value) (o i : Nat) (w : World) (us : Array Value) (t : TypeId) (fr : Nat × Nat), w.heap[g]? = some (.cells us t fr) → NoFr us fr → o + i + vs.length ≤ us.size → (∀ u ∈ vs, u.oneCell' = true) →
    (storeCells ⟨g, o, none⟩ vs i).run P w = .ok () (w.setCells g (o + i) vs)
  | [], o, i, w, us, t, fr, h, hf, hl, h1 => by simp [storeCells, World.setCells]
  | v :: r, o, i, w, us, t, fr, h, hf, hl, h1 => by
    simp only [List.length_cons] at hl
    have hc : w.cell? ⟨g, o + i, none⟩ = some us[o + i] := by rw [cell_of_heap h]; exact Array.getElem?_eq_getElem (by omega)
    have hfz : w.frozen? ⟨g, o + i, none⟩ = false := by
      have := hf (o + i) (by omega)
      simp only [World.frozen?, h]
      simp only [Bool.and_eq_false_iff, decide_eq_false_iff_not]
      rcases Decidable.not_and_iff_or_not.1 this with h | h
      · exact .inl h
      · exact .inr h
    have hs : (store ((⟨g, o, none⟩ : Addr).add i) v).run P w = .ok () (w.setCell ⟨g, o + i, none⟩ v) := by
      rw [Addr.add_mid, run_store P w _ v _ (h1 v List.mem_cons_self), hc]
      simp [hfz]
    have hh : (w.setCell ⟨g, o + i, none⟩ v).heap[g]? = some (.cells (us.setIfInBounds (o + i) v) t fr) := by
      simp [World.setCell, Array.getElem?_modify, h]
    simp only [storeCells, Sem.run_bind, hs, Result.andThen_ok, World.setCells]
    rw [run_storeCells_own g r o (i + 1) _ _ t fr hh (by intro p hp; exact hf p (by simpa using hp)) (by simp; omega) (fun u hu => h1 u (List.mem_cons_of_mem _ hu))]
    rfl
end

theorem run_callFunc {P : Program} {f : FuncId} {args : Array Value} (hf : okFn P f = true) (w : World) : (callFunc f args).run P w = .ok (.enter f args) w := by
  unfold okFn at hf
  split at hf
  · rename_i fn he
    simp only [Bool.and_eq_true, Bool.not_eq_true'] at hf
    have h1 : fn.name ≠ "runtime.NumGoroutine" := by simpa using hf.1
    have h2 : fn.body.isNone = false := by
      have := hf.2
      cases hb : fn.body with
      | none => rw [hb] at this; simp at this
      | some c => rfl
    simp [callFunc, he, h1]
    intro hh
    rw [hh] at h2
    simp at h2
  · cases hf

section
variable {P : Program} {ρ : Operand → V} {σ : Operand → Option V} {h : Hp} {K : V → Hp → Prop} {KP : List PanicEntry → Hp → Prop} {dst : Option Tmp} {ty : TypeId} {pos : String} {after : Array Edge} {guard : Option (Nat × Bool)}

theorem Rep.rlen {F : Fro} {v : V} {u : Value} (h : Rep F v u) (hs : v.solid = true) : u.cells.size = v.cells.length := by
  have := (h.cells hs).length
  simp at this; exact this.symm

theorem w_st {t : TypeId} {x y : Operand} {b : Bool} {sz : Nat} (hl : lay P t = some (b, sz)) (hb : b = true ∨ sz = 1) (hf : Fits σ ρ) (h0 : on (σ x) fun vx => on (σ y) fun vy => stK b sz vx vy h fun h' => K (.v undef) h') : VOp P ⟨dst, .store t x y, ty, pos, after, guard⟩ ρ h K KP := by
  obtain ⟨vx, h1, hq⟩ := on_get h0
  obtain ⟨vy, h2, hz⟩ := on_get hq
  clear h0 hq
  have hx := hf _ _ h1
  have hy := hf _ _ h2
  unfold stK at hz
  split at hz
  · rename_i s k i j
    obtain ⟨c1, c2, c3⟩ := cellsK_get hz
    obtain ⟨c4, c5⟩ := onesK_get c3
    obtain ⟨l1, es, l2, rfl, ⟨e, he, c6⟩⟩ := c5.open
    obtain ⟨c7, ⟨es', c8, c9⟩⟩ := setK_get c6
    subst c8
    intro base F w ρ' hs hr
    have e1 := hr x (by simp [Op.operands]); rw [hx] at e1
    have e2 := hr y (by simp [Op.operands]); rw [hy] at e2
    have hcs := e2.cells c1
    unfold execOp
    dsimp only
    generalize ρ' x = u at e1
    cases e1 with
    | ptr _ _ _ _ g tot hrk =>
      obtain ⟨us, t', fr, a, b', c, d, y', z⟩ := hs.find he hrk
      have hyl := hcs.length
      have hib : i * s + s ≤ us.toList.length := by
        have := d.len
        have hi : i < es.length := (List.getElem?_eq_some_iff.1 he).1
        have h3 : (i + 1) * s ≤ es.length * s := Nat.mul_le_mul_right _ hi
        rw [Nat.succ_mul] at h3; omega
      have hsz : (ρ' y).cells.size = sz := by
        rw [e2.rlen c1, c2]
        rcases hb with rfl | rfl
        · rfl
        · simp
      obtain ⟨_, i2, _⟩ := run_isAgg hl w
      have hrun : (Instr.storeAt t (.pointer (some ⟨g, i * s + j, none⟩)) (ρ' y)).run P w = .ok () (w.setCells g (i * s + j) (ρ' y).cells.toList) := by
        have := run_storeCells_own (P := P) g (ρ' y).cells.toList (i * s + j) 0 w us t' fr a b' (by simp at hib hyl ⊢; omega) (hcs.one c4)
        simp only [Nat.add_zero] at this
        simp [Instr.storeAt, Instr.sureAddr, storeVar, i2, hsz, this]
      rw [Sem.run_bind, hrun]
      exact ⟨F, _, FLe.refl F, hs.put hcs he (by omega) hrk, .v undef, .v undef, c9⟩
  · exact hz.elim

theorem w_box {t : TypeId} {x : Operand} {b : Bool} {sz : Nat} (hl : lay P t = some (b, sz)) (hb : b = true ∨ sz = 1) (hf : Fits σ ρ) (h0 : on (σ x) fun v => cellsK b sz v fun ys => New fun k => K (.ptr sz k 0 0) ((k, .blk sz [ys]) :: h)) : VOp P ⟨dst, .box t x, ty, pos, after, guard⟩ ρ h K KP := by
  obtain ⟨vx, h1, hz⟩ := on_get h0
  have hx := hf _ _ h1
  obtain ⟨c1, c2, c3⟩ := cellsK_get hz
  intro base F w ρ' hs hr
  have e1 := hr x (by simp [Op.operands]); rw [hx] at e1
  have hcs := e1.cells c1
  have hsz : vx.cells.length = sz := by
    rw [c2]
    rcases hb with rfl | rfl
    · rfl
    · simp
  have hrr : RepR F sz [vx.cells] (ρ' x).cells.toList := .cons sz _ _ _ hsz hcs.toP (.nil _ _)
  obtain ⟨F', k, f1, f2, f3⟩ := Sim.alloc (h1 := []) hs (ρ' x).cells t hrr
  simp only [execOp, Instr.box, newVar, newRow, Sem.run_bind, run_newObj, Result.andThen_ok, Sem.run_pure]
  refine ⟨F', _, f1, f3, _, ?_, c3.all k⟩
  have := Rep.ptr (F := F') sz k 0 0 _ _ f2
  simpa using this

theorem w_alloc {t : TypeId} {b : Bool} {sz : Nat} {zs : List Value} (hl : lay P t = some (b, sz)) (hz : zero? P t = some zs) (hzl : zs.length = sz) (h0 : forceL (zs.map .v) fun ys => New fun k => K (.ptr sz k 0 0) ((k, .blk sz [ys]) :: h)) : VOp P ⟨dst, .alloc t, ty, pos, after, guard⟩ ρ h K KP := by
  rw [forceL_iff] at h0
  intro base F w ρ' hs hr
  obtain ⟨z, z1, z2⟩ := run_zero hz w
  have hrr : RepR F sz [zs.map V.v] z.cells.toList := by
    rw [z2]
    exact .cons sz _ _ _ (by simpa using hzl) (RepL.lits zs).toP (.nil _ _)
  obtain ⟨F', k, f1, f2, f3⟩ := Sim.alloc (h1 := []) hs z.cells t hrr
  simp only [execOp, Instr.alloc, newVar, newRow, Sem.run_bind, z1, run_newObj, Result.andThen_ok, Sem.run_pure]
  refine ⟨F', _, f1, f3, _, ?_, h0.all k⟩
  have := Rep.ptr (F := F') sz k 0 0 _ _ f2
  simpa using this

theorem chunksK_get {sz : Nat} : ∀ {n : Nat} {cs : List V} {K : List (List V) → Prop}, chunksK sz n cs K → ∃ es, K es ∧ es.length = n ∧ (∀ e ∈ es, e.length = sz) ∧ n * sz ≤ cs.length ∧ es.flatten = cs.take (n * sz)
  | 0, cs, K, h => ⟨[], h, rfl, by simp, by simp, by simp⟩
  | n + 1, cs, K, h => by
    obtain ⟨h1, h2⟩ := takeK_get h
    obtain ⟨_, h3⟩ := skipK_get h2
    obtain ⟨es, k1, k2, k3, k4, k5⟩ := chunksK_get h3
    have hm : (n + 1) * sz = sz + n * sz := by rw [Nat.succ_mul, Nat.add_comm]
    refine ⟨_, k1, by simp [k2], ?_, ?_, ?_⟩
    · intro e he
      rcases List.mem_cons.1 he with rfl | he
      · simp; omega
      · exact k3 e he
    · rw [hm]; simp at k4; omega
    · rw [List.flatten_cons, k5, hm, List.take_add]

theorem litParts_length (sz : Nat) (b : Bool) : ∀ ps : List (Nat × Operand), (litParts sz b ps).length = ps.length
  | [] => rfl
  | (i, x) :: ps => by simp [litParts, litParts_length sz b ps]
theorem litParts_get (sz : Nat) (b : Bool) : ∀ (ps : List (Nat × Operand)) (k i : Nat) (x : Operand), ps[k]? = some (i, x) → (litParts sz b ps)[k]? = some (i * sz, sz, b, x)
  | [], k, i, x, h => by simp at h
  | (j, y) :: ps, 0, i, x, h => by simp at h; obtain ⟨rfl, rfl⟩ := h; rfl
  | (j, y) :: ps, k + 1, i, x, h => by simpa [litParts] using litParts_get sz b ps k i x (by simpa using h)

theorem zeros_flat (sz len : Nat) (zs : List Value) (hl : zs.length = sz) : ((Array.range (len * sz)).map (fun i => (zs.toArray)[i % zs.toArray.size]!)).toList = (List.replicate len zs).flatten := by
  induction len with
  | zero => simp
  | succ n ih =>
    rw [List.replicate_succ', List.flatten_append, ← ih]
    have : (n + 1) * sz = n * sz + sz := by rw [Nat.succ_mul]
    rw [this]
    simp only [Array.toList_map, Array.toList_range, List.range_add, List.map_append, List.map_map]
    congr 1
    simp only [List.flatten_cons, List.flatten_nil, List.append_nil]
    apply List.ext_getElem
    · simp [hl]
    · intro i h1 h2
      simp only [List.length_map, List.length_range] at h1
      simp only [List.getElem_map, List.getElem_range, Function.comp]
      have hm : (n * sz + i) % zs.toArray.size = i := by
        simp [hl, Nat.mod_eq_of_lt h1]
      rw [hm, getElem!_pos _ i (by simp; omega)]
      simp

/-- A world that has grown by one block, which is frozen from then on. -/
theorem Sim.alloc_fro2 {base : World} {F : Fro} {w : World} (hs : Sim base F h w) (o : Obj) : ∃ F', FLe F F' ∧ F'.f w.heap.size = some o ∧ F'.r = F.r ∧ Sim base F' h (w.alloc o) := by
  have hn := hs.fro_lt (Nat.le_refl w.heap.size)
  have h1 : Sim base F h (w.alloc o) := hs.grown_none (World.grownBy_alloc w o none)
  have hle : FLe F ⟨fun k => if k = w.heap.size then some o else F.f k, F.r⟩ := by
    refine ⟨fun g o' hg => ?_, fun _ _ h => h⟩
    have : g ≠ w.heap.size := fun he => by rw [he, hn] at hg; cases hg
    simp [this, hg]
  refine ⟨⟨fun k => if k = w.heap.size then some o else F.f k, F.r⟩, hle, by simp, rfl, h1.below, ?_, h1.adr, h1.inj, h1.fresh, h1.nodup, ?_, h1.typ⟩
  · intro g o' hg
    dsimp only at hg
    split at hg
    · rename_i he; subst he; cases hg; exact heap_alloc_new w o
    · exact h1.fro g o' hg
  · intro k c hc
    have h3 := h1.own k c hc
    have hne : ∀ g tot, F.r k = some (some (g, tot)) → g ≠ w.heap.size := fun g tot hr he => by
      have := (hs.adr _ _ _ hr).2; omega
    cases c with
    | blk sz es =>
      rcases h3 with h3 | ⟨g, tot, us, t, fr, a, b, c, d, z, y⟩
      · exact .inl h3
      · exact .inr ⟨g, tot, us, t, fr, a, by simp [hne g tot a, b], c, d, z, y.mono hle⟩
    | obj o2 =>
      obtain ⟨g, tot, a, b, c⟩ := h3
      exact ⟨g, tot, a, by simp [hne g tot a, b], c⟩
    | lp N f r =>
      obtain ⟨g, tot, tmps, a, b, c, d, e⟩ := h3
      exact ⟨g, tot, tmps, a, by simp [hne g tot a, b], c, d, e.mono hle⟩
    | tab g vs => obtain ⟨a, t, fr, b⟩ := h3; exact ⟨a, t, fr, hle.1 _ _ b⟩
theorem Sim.alloc_fro {base : World} {F : Fro} {w : World} (hs : Sim base F h w) (o : Obj) : ∃ F', FLe F F' ∧ F'.f w.heap.size = some o ∧ Sim base F' h (w.alloc o) :=
  let ⟨F', a, b, _, c⟩ := hs.alloc_fro2 o; ⟨F', a, b, c⟩

theorem w_lit {own : Bool} {t e : TypeId} {b : Bool} {sz len : Nat} {parts : Array (Nat × Operand)} {zs : List Value} (ht : P.underlying t = some (.slice e)) (he : lay P e = some (b, sz)) (hz : zero? P e = some zs) (hb : b = true ∨ sz = 1) (hsz : 0 < sz) (hzl : zs.length = sz) (hlen : len * sz ≤ 16777216) (hl0 : 0 < len) (hf : Fits σ ρ)
    (h0 : buildK σ (litParts sz b parts.toList) ((List.replicate len (zs.map .v)).flatten) fun cs => chunksK sz len cs fun es => match own with
      | true => New fun k => K (.osl sz k 0 len) ((k, .blk sz es) :: h)
      | false => K (.row sz es) h) : VOp P ⟨dst, .buildSlice t len parts, ty, pos, after, guard⟩ ρ h K KP := by
  obtain ⟨r, hr0, hre⟩ := buildK_re h0
  obtain ⟨es, k1, k2, k3, k4, k5⟩ := chunksK_get hr0
  intro base F w ρ' hs hr
  obtain ⟨_, i2, _⟩ := run_isAgg he w
  obtain ⟨z, z1, z2⟩ := run_zero hz w
  have hzz : z.cells = zs.toArray := by rw [← z2]
  have hz0 : RepL F ((List.replicate len (zs.map V.v)).flatten) ((Array.range (len * sz)).map (fun i => z.cells[i % z.cells.size]!)).toList := by
    rw [hzz, zeros_flat sz len zs hzl]
    have : (List.replicate len (zs.map V.v)).flatten = ((List.replicate len zs).flatten).map V.v := by simp [List.map_flatten]
    rw [this]
    exact .lits _
  obtain ⟨us, cs', f1, f2, f3⟩ := fill_real (F := F) (ρ := ρ) (ρ' := ρ') (K := fun c => c = r) hf (place := fun i => some (i * sz, sz)) (ps := parts.toList) (litParts_length _ _ _) (fun k i x hx => ⟨i * sz, sz, b, litParts_get sz b _ k i x hx, rfl, hb⟩) hz0 (fun p hp => hr p.2 (by simp only [Op.operands]; simpa using ⟨p.1, by simpa using hp⟩)) (hre _ rfl)
  subst f3
  have hcl : cs'.length = len * sz := by
    rw [f2.length]
    have hsame : ∀ {place : Nat → Option (Nat × Nat)} (ps : List (Nat × Value)) (us us' : Array Value), Instr.fill place us ps = some us' → us'.size = us.size := by
      intro place ps
      induction ps with
      | nil => intro us us' h; simp [Instr.fill] at h; rw [h]
      | cons p ps ih =>
        intro us us' h
        unfold Instr.fill at h
        split at h
        · cases h
        · rename_i o s hpl
          split at h
          · cases h
          · rw [ih _ _ h]
            have : ∀ (vs : List (Value × Nat)) (us : Array Value), (vs.foldl (fun cs (c, j) => cs.setIfInBounds (o + j) c) us).size = us.size := by
              intro vs
              induction vs with
              | nil => intro us; rfl
              | cons v vs ih2 => intro us; rw [List.foldl_cons, ih2]; simp
            rw [← Array.foldl_toList, this]
    have := hsame _ _ _ f1
    simp at this ⊢
    exact this
  have hrr : RepR F sz es us.toList := RepR.ofL k3 (by rw [k5, List.take_of_length_le (by omega)]; exact f2)
  have hussz : us.size = len * sz := by have := f2.length; simp at this; omega
  have hn : ¬ (len * sz > 2 ^ 24) := by omega
  have hne : ¬ (len * sz = 0) := by
    have := Nat.mul_pos hl0 hsz; omega
  have hf2 : Instr.fill (fun i => some (i * sz, sz)) ((Array.range (len * sz)).map (fun x => z.cells[x % z.cells.size]!)) (parts.map fun p => (p.1, ρ' p.2)).toList = some us := by simpa using f1
  have hrun : (Instr.buildSlice t len (parts.map fun p => (p.1, ρ' p.2))).run P w = .ok (.slice (some ⟨w.heap.size, 0, none⟩) len len) (w.alloc (.cells us e)) := by
    unfold Instr.buildSlice
    rw [Sem.run_bind, run_underlying ht]
    simp only [Result.andThen_ok]
    rw [Sem.run_bind, i2]
    simp only [Result.andThen_ok]
    rw [if_neg hn, if_neg hne]
    simp only [Sem.run_bind, z1, Result.andThen_ok, Sem.run_pure]
    rw [hf2]
    simp only [newRow, Sem.run_bind, run_newObj, Result.andThen_ok, Sem.run_pure]
    rfl
  unfold execOp
  dsimp only
  rw [Sem.run_bind, hrun]
  cases own with
  | true =>
    obtain ⟨F', k, g1, g2, g3⟩ := Sim.alloc (h1 := []) hs us e hrr
    refine ⟨F', _, g1, g3, _, ?_, k1.all k⟩
    have hll : len ≤ len * sz := Nat.le_mul_of_pos_right _ hsz
    have := Rep.osl (F := F') sz k 0 len len _ _ g2 (Nat.le_refl _) (by rw [Nat.zero_add, hussz]; exact Nat.le_refl _) (by omega)
    simpa using this
  | false =>
    obtain ⟨F', g1, g2, g3⟩ := hs.alloc_fro (.cells us e)
    refine ⟨F', h, g1, g3, _, .row sz _ _ 0 len len us e (0, 0) g2 k2.symm (Nat.le_refl _) ?_, k1⟩
    rw [List.drop_zero]
    exact hrr.mono g1

theorem w_make {t e : TypeId} {b : Bool} {sz : Nat} {i : TypeInfo} {x y : Operand} {zs : List Value} (ht : P.underlying t = some (.slice e)) (he : lay P e = some (b, sz)) (hz : zero? P e = some zs) (hi : P.info? e = some i) (hzl : zs.length = sz) (hf : Fits σ ρ)
    (h0 : on (σ x) fun vx => on (σ y) fun vy => makeK sz i.bytes zs vx vy h K) : VOp P ⟨dst, .makeSlice t x y, ty, pos, after, guard⟩ ρ h K KP := by
  obtain ⟨vx, h1, hz0⟩ := on_get h0
  obtain ⟨vy, h2, hq⟩ := on_get hz0
  clear h0 hz0
  have hx := hf _ _ h1
  have hy := hf _ _ h2
  unfold makeK at hq
  split at hq
  · rename_i k n' k2 c'
    obtain ⟨n, hn, ⟨c, hc, ⟨⟨hnc, hby, hcm⟩, hq2⟩⟩⟩ := hq
    rw [forceL_iff] at hq2
    obtain ⟨es, hes, hK⟩ := hq2
    subst hn; subst hc; subst hes
    intro base F w ρ' hs hr
    have hx1 := hr x (by simp [Op.operands]); rw [hx] at hx1; have hx1 := hx1.lit
    have hy1 := hr y (by simp [Op.operands]); rw [hy] at hy1; have hy1 := hy1.lit
    obtain ⟨_, i2, i', i3, i4⟩ := run_isAgg he w
    rw [hi] at i3
    cases i3
    have hzi : ∃ z', i.zero = some z' ∧ z'.cells.toList = zs := by
      unfold zero? at hz
      rw [hi] at hz
      cases hzo : i.zero with
      | none => simp [hzo] at hz
      | some z' => simp [hzo] at hz; exact ⟨z', rfl, hz⟩
    obtain ⟨z', hz1, hz2⟩ := hzi
    have hb' : (i.bytes : Int) * ((c : Int)) ≤ 281474976710656 := by
      have : ((i.bytes * c : Nat) : Int) ≤ 281474976710656 := by omega
      rwa [Int.natCast_mul] at this
    have hrun := run_make (P := P) w t e i z' ht hi hz1 k k2 (n : Int) (c : Int) (by omega) (by omega) hb' (by omega)
    unfold execOp
    dsimp only
    rw [hx1, hy1, Sem.run_bind, hrun]
    simp only [Int.toNat_natCast]
    have hcells : (madeCells z'.cells (c * i.size)).toList = (List.replicate c zs).flatten := by
      have := zeros_flat sz c zs hzl
      rw [i4]
      have hz3 : z'.cells = zs.toArray := by rw [← hz2]
      unfold madeCells
      rw [hz3]
      exact this
    have hsz : (madeCells z'.cells (c * i.size)).size = c * sz := by rw [← Array.length_toList, hcells]; simp [hzl]
    have hrr : RepR F sz (List.replicate n (zs.map V.v)) (madeCells z'.cells (c * i.size)).toList := by
      rw [hcells]
      have h5 : RepR F sz (List.replicate c (zs.map V.v)) ((List.replicate c zs).flatten) := by
        refine RepR.ofL (fun e he => ?_) ?_
        · obtain ⟨_, rfl⟩ := List.mem_replicate.1 he; simpa using hzl
        · have : (List.replicate c (zs.map V.v)).flatten = ((List.replicate c zs).flatten).map V.v := by simp [List.map_flatten]
          rw [this]
          exact .lits _
      have := h5.take n
      rwa [List.take_replicate, Nat.min_eq_left hnc] at this
    obtain ⟨F', kk, g1, g2, g3⟩ := Sim.alloc (h1 := []) hs _ e hrr
    refine ⟨F', _, g1, g3, _, ?_, hK.all kk⟩
    have := Rep.osl (F := F') sz kk 0 n c _ _ g2 hnc (by rw [Nat.zero_add, hsz]; exact Nat.le_refl _) hcm
    simpa using this
  · exact hq.elim

theorem flatten_ones {α : Type} (f : α → V) : ∀ l : List α, (l.map fun x => [f x]).flatten = l.map f
  | [] => rfl
  | a :: l => by simp [flatten_ones f l]

theorem w_bytes {s t e : TypeId} {x : Operand} (hsu : P.underlying s = some .string) (ht : P.underlying t = some (.slice e)) (he : P.underlying e = some (.int .u8)) (hf : Fits σ ρ) (h0 : on (σ x) fun v => bytesK v h K) : VOp P ⟨dst, .convert s t x, ty, pos, after, guard⟩ ρ h K KP := by
  obtain ⟨vx, h1, hq⟩ := on_get h0
  have hx := hf _ _ h1
  unfold bytesK at hq
  split at hq
  · rename_i l
    intro base F w ρ' hs hr
    have hx1 := hr x (by simp [Op.operands]); rw [hx] at hx1; have hx1 := hx1.lit
    have hrun := Lib.run_convert_string_bytes (P := P) w s t e ⟨⟨l⟩⟩ hsu ht he
    unfold execOp
    dsimp only
    rw [hx1, Sem.run_bind, hrun]
    have hg : w.grownBy (Lib.bytesWorld w e ⟨⟨l⟩⟩) none := ⟨rfl, rfl, rfl, by rw [Lib.bytesWorld_size]; omega, fun k hk _ => Lib.bytesWorld_at_old w e _ k hk⟩
    have h3 : Sim base F h (Lib.bytesWorld w e ⟨⟨l⟩⟩) := hs.grown_none hg
    have hsz : (ByteArray.mk (Array.mk l)).size = l.length := rfl
    have hc : l.length ≤ grownCap w l.length 0 e := by unfold grownCap Question.cut; exact Nat.le_add_right _ _
    obtain ⟨hlm, hq⟩ := hq
    have hbig : grownCap w l.length 0 e ≤ 9223372036854775807 := by
      unfold grownCap Question.cut
      dsimp only
      have := Nat.mod_lt (w.tape w.drawn (.appendCap l.length 0 e)) (show 0 < 2 ^ 63 - l.length by omega)
      omega
    have h2 : (Lib.bytesCells w e ⟨⟨l⟩⟩).toList = (l.map fun b => Value.int .u8 b.toNat) ++ List.replicate (grownCap w l.length 0 e - l.length) (.int .u8 0) := by
      simp [Lib.bytesCells, hsz]
    have hf0 := hs.fro_lt (Nat.le_refl w.heap.size)
    obtain ⟨k, k1, k2, k3, k4, k5⟩ := h3.named (some (w.heap.size, (Lib.bytesCells w e ⟨⟨l⟩⟩).size)) (fun g tot he => by
      cases he
      refine ⟨hs.below.size, by rw [Lib.bytesWorld_size]; omega, fun k tot hr => ?_⟩
      have := (hs.adr _ _ _ hr).2
      omega)
    have hrr : RepR (F.name k (some (w.heap.size, (Lib.bytesCells w e ⟨⟨l⟩⟩).size))) 1 (rInts .u8 (nums l)) (Lib.bytesCells w e ⟨⟨l⟩⟩).toList := by
      rw [h2]
      have h5 : RepR (F.name k (some (w.heap.size, (Lib.bytesCells w e ⟨⟨l⟩⟩).size))) 1 (rInts .u8 (nums l)) (l.map fun b => Value.int .u8 b.toNat) := by
        refine RepR.ofL (fun e he => ?_) ?_
        · obtain ⟨n, _, rfl⟩ := List.mem_map.1 he; rfl
        · have := RepL.lits (F := F.name k (some (w.heap.size, (Lib.bytesCells w e ⟨⟨l⟩⟩).size))) (l.map fun b => Value.int .u8 b.toNat)
          have e2 : (rInts .u8 (nums l)).flatten = (l.map fun b => Value.int .u8 b.toNat).map V.v := by
            unfold rInts nums
            rw [List.map_map, List.map_map]
            exact flatten_ones _ _
          rw [e2]; exact this
      refine h5.front ?_
      have hlen : (rInts .u8 (nums l)).length = l.length := by simp [rInts, nums]
      rw [hlen, Nat.mul_one, List.take_append_of_le_length (by simp)]
    have hcap : (Lib.bytesCells w e ⟨⟨l⟩⟩).size = grownCap w l.length 0 e := by
      rw [← Array.length_toList, h2]; simp; omega
    refine ⟨_, _, k4, Sim.cons k5 k2 (c := .blk 1 (rInts .u8 (nums l))) (.inr ⟨_, _, _, _, _, k3, hf0, Lib.bytesWorld_at_new w e ⟨⟨l⟩⟩, fun i hi => by omega, rfl, hrr⟩), _, ?_, hq.all k⟩
    have := Rep.osl (F := F.name k (some (w.heap.size, (Lib.bytesCells w e ⟨⟨l⟩⟩).size))) 1 k 0 l.length (grownCap w l.length 0 e) _ _ k3 hc (by rw [hcap]; omega) hbig
    show Rep _ _ (Value.slice (some ⟨w.heap.size, 0, none⟩) l.length (grownCap w l.length 0 e))
    simpa using this
  · exact hq.elim

theorem w_call {f : FuncId} {args : Array Operand} {ats : Array TypeId} (hf : Fits σ ρ) (hfn : ρ (.func f) = .v (.func (.func f) #[] #[])) (h0 : onL σ args.toList fun vs => VCalls P f vs h K KP) : VOp P ⟨dst, .call ⟨.value (.func f), args, ats⟩, ty, pos, after, guard⟩ ρ h K KP := by
  obtain ⟨vs, h1, hc⟩ := onL_get h0
  have hvs := h1 ρ hf
  intro base F w ρ' hs hr
  have hargs : RepL F (args.toList.map ρ) (args.map ρ').toList := by
    have := RepL.map_ops (F := F) (ρ := ρ) (ρ' := ρ') (xs := args.toList) (fun x hx => hr x (by simp [Op.operands, Call.operands]; right; simpa using hx))
    simpa using this
  have h2 := hr (.func f) (by simp [Op.operands, Call.operands])
  rw [hvs] at hargs
  have hrun : (execOp ρ' ⟨dst, .call ⟨.value (.func f), args, ats⟩, ty, pos, after, guard⟩).run P w = .ok (.enter f (args.map ρ')) w := by
    have h3 : ρ' (.func f) = .func (.func f) #[] #[] := by
      rw [hfn] at h2
      exact h2.lit
    simp only [execOp, resolve, h3, Deferred.ofValue, Sem.run_bind, Sem.run_pure, Result.andThen_ok, invoke, run_callFunc hc.1]
    simp
  rw [hrun]
  exact hc.2 base F _ w hs hargs

theorem w_callv {g : Operand} {args : Array Operand} {ats : Array TypeId} (hf : Fits σ ρ) (h0 : on (σ g) fun vg => onL σ args.toList fun vs => callvK P vg vs h K KP) : VOp P ⟨dst, .call ⟨.value g, args, ats⟩, ty, pos, after, guard⟩ ρ h K KP := by
  obtain ⟨vg, hg, h0⟩ := on_get h0
  obtain ⟨vs, h1, hc⟩ := onL_get h0
  have hvs := h1 ρ hf
  have hx := hf _ _ hg
  intro base F w ρ' hs hr
  have hargs : RepL F (args.toList.map ρ) (args.map ρ').toList := by
    have := RepL.map_ops (F := F) (ρ := ρ) (ρ' := ρ') (xs := args.toList) (fun x hx => hr x (by simp [Op.operands, Call.operands]; right; simpa using hx))
    simpa using this
  rw [hvs] at hargs
  have h2 := hr g (by simp [Op.operands, Call.operands])
  rw [hx] at h2
  unfold callvK at hc
  split at hc
  · rename_i f a b
    generalize hu : ρ' g = u at h2
    cases h2 with
    | fn _ _ _ a' b' ha hb =>
      have hrun : (execOp ρ' ⟨dst, .call ⟨.value g, args, ats⟩, ty, pos, after, guard⟩).run P w = .ok (.enter f (a' ++ args.map ρ' ++ b')) w := by
        simp only [execOp, resolve, hu, Deferred.ofValue, Sem.run_bind, Sem.run_pure, Result.andThen_ok, invoke, run_callFunc hc.1]
      rw [hrun]
      refine hc.2 base F _ w hs ?_
      simpa using (ha.append hargs).append hb
  · rename_i f a b
    have hu := h2.lit
    have hrun : (execOp ρ' ⟨dst, .call ⟨.value g, args, ats⟩, ty, pos, after, guard⟩).run P w = .ok (.enter f (a ++ args.map ρ' ++ b)) w := by
      simp only [execOp, resolve, hu, Deferred.ofValue, Sem.run_bind, Sem.run_pure, Result.andThen_ok, invoke, run_callFunc hc.1]
    rw [hrun]
    refine hc.2 base F _ w hs ?_
    simpa using ((RepL.lits a.toList).append hargs).append (RepL.lits b.toList)
  · rename_i k
    generalize hu : ρ' g = u at h2
    cases h2 with
    | yld _ g' tot hk =>
      have hrun : (execOp ρ' ⟨dst, .call ⟨.value g, args, ats⟩, ty, pos, after, guard⟩).run P w = (Instr.yield g' (args.map ρ')).run P w := by
        simp only [execOp, resolve, hu, Deferred.ofValue, Sem.run_bind, Sem.run_pure, Result.andThen_ok, invoke]
        simp
      rw [hrun]
      exact hc base F _ w g' tot hs hargs hk
  · exact hc.elim
end
end Go.XW
