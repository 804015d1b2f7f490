/- More operations: they do what the conditions say. -/
import Derived.Test.YtpiicncihccheaaGreatDoorXN
import Derived.Laws.Cover4
import Derived.RangeFuncRecord
import Derived.RangeFuncOwn
namespace Go.XW
open Go.RowKit
set_option linter.unusedVariables false

section
variable {P : Program} {ρ : Operand → V} {σ : Operand → Option V} {h : Hp} {K : V → Hp → Prop} {KP : List PanicEntry → Hp → Prop}
variable {dst : Option Tmp} {ty : TypeId} {pos : String} {after : Array Edge} {guard : Option (Nat × Bool)}

theorem x_row0 {t e : TypeId} {b : Bool} {sz : Nat} {K : V → Prop} (ht : P.underlying t = some (.slice e)) (he : lay P e = some (b, sz)) (h0 : R0 sz K) : ∃ v, (∀ h, VRead P ⟨dst, .buildSlice t 0 #[], ty, pos, after, guard⟩ ρ h v) ∧ K v := by
  have key : ∀ v : V, (∀ (F : Fro) (a : Addr), Rep F v (.slice (some a) 0 0)) → ∀ h, VRead P ⟨dst, .buildSlice t 0 #[], ty, pos, after, guard⟩ ρ h v := by
    intro v hv h base F w ρ' hs hr
    obtain ⟨_, i2, _⟩ := run_isAgg he w
    simp only [execOp, Instr.buildSlice, Sem.run_bind, run_underlying ht, Result.andThen_ok, i2]
    simp [Instr.fill, newRow, run_newObj, Sem.run_bind, Result.andThen_ok]
    exact ⟨F, h, FLe.refl F, hs.grown_none (World.grownBy_alloc w _ none), _, hv _ _, rfl, rfl⟩
  cases h0 with
  | row h => exact ⟨_, key _ fun F a => .row0 sz _ _, h⟩
  | osl k h => exact ⟨_, key _ fun F a => .osl0 sz k 0 _, h⟩
theorem x_peq {t e : TypeId} {neg : Bool} {j : TypeInfo} {x y : Operand} {K : V → Prop} (ht : P.underlying t = some (.pointer e)) (hj : P.info? e = some j) (hf : Fits σ ρ) (h0 : on (σ x) fun vx => on (σ y) fun vy => peqK (!neg) vx vy K) :
    ∃ v, (∀ h, VRead P ⟨dst, .binOp (if neg then .neq else .eql) t x y t, ty, pos, after, guard⟩ ρ h v) ∧ K v := by
  obtain ⟨vx, h1, h0⟩ := on_get h0
  obtain ⟨vy, h2, h0⟩ := on_get h0
  unfold peqK at h0
  split at h0
  · rename_i s k i j s' k' i' j' _
    obtain ⟨⟨b1, b2, b3, b4⟩, h0⟩ := h0
    subst b1 b2 b3 b4
    refine ⟨_, fun h base F w ρ' hs hr => ?_, h0⟩
    have e1 := hr x (by simp [Op.operands])
    have e2 := hr y (by simp [Op.operands])
    rw [hf _ _ h1] at e1
    rw [hf _ _ h2] at e2
    generalize hu : ρ' x = u at e1
    generalize hv : ρ' y = u2 at e2
    cases e1 with
    | ptr _ _ _ _ g tot hk =>
      cases e2 with
      | ptr _ _ _ _ g' tot' hk' =>
        rw [hk] at hk'
        cases hk'
        have hg : ∀ (op : BinOp) (p : Addr), (eqGuard op t x y (.pointer (some p)) (.pointer (some p))).run P w = .ok () w := fun op p => by cases op <;> simp [eqGuard]
        have he : ∀ p : Addr, (binOp .eql t (.pointer (some p)) (.pointer (some p))).run P w = .ok (.bool true) w := fun p => by
          have h : ∀ d : Nat, (Op.equalIn (d + 1) t (.pointer (some p)) (.pointer (some p))).run P w = .ok true w := fun d => by
            simp [Op.equalIn, run_underlying ht, sizeOf, typeInfo, hj, run_sameAddr_same]
          simp only [binOp]
          simp [Op.equal, Op.maxDepth, h 9999]
        cases neg with
        | true =>
          simp only [execOp, hu, hv, if_true, Sem.run_bind, hg, Lib.run_neq_ptr_same w _ ht hj, Result.andThen_ok, Sem.run_pure]
          exact VOut.value hs (.v _) ⟨rfl, rfl⟩
        | false =>
          simp only [execOp, hu, hv, Bool.false_eq_true, if_false, Sem.run_bind, hg, he, Result.andThen_ok, Sem.run_pure]
          exact VOut.value hs (.v _) ⟨rfl, rfl⟩
  · exact h0.elim
theorem x_sdat {x : Operand} {args : Array Operand} {ts : Array TypeId} {K : V → Prop} (ha : args.toList = [x]) (hf : Fits σ ρ) (h0 : on (σ x) fun vx => sdatK vx K) :
    ∃ v, (∀ h, VRead P ⟨dst, .call ⟨.builtin .unsafeSliceData, args, ts⟩, ty, pos, after, guard⟩ ρ h v) ∧ K v := by
  obtain ⟨vx, h1, h0⟩ := on_get h0
  obtain rfl : args = #[x] := by cases args; simp_all
  unfold sdatK at h0
  split at h0
  · rename_i k off n
    obtain ⟨hn, h0⟩ := h0
    refine ⟨_, fun h base F w ρ' hs hr => ?_, h0⟩
    have e1 := hr x (by simp [Op.operands, Call.operands])
    rw [hf _ _ h1] at e1
    generalize hu : ρ' x = u at e1
    cases e1 with
    | osl0 => omega
    | osl _ _ _ _ c g tot hk hnc htot hc =>
      have hrun := Lib.run_unsafeSliceData_row (P := P) (w := w) ts ty ⟨g, off * 1, none⟩ n c (by omega)
      have hrun2 : (execOp ρ' ⟨dst, .call ⟨.builtin .unsafeSliceData, #[x], ts⟩, ty, pos, after, guard⟩).run P w = .ok (.value (.pointer (some ⟨g, off * 1, none⟩))) w := by
        simp [execOp, resolve, invoke, builtin, hu, Sem.run_bind, Lib.run_unsafeSliceData_row (P := P) (w := w) ts ty ⟨g, off, none⟩ n c (by omega)]
      rw [hrun2]
      exact VOut.value hs (v := .ptr 1 k off 0) (by have := Rep.ptr (F := F) 1 k off 0 g tot hk; exact this) ⟨rfl, rfl⟩
  · refine ⟨_, fun h base F w ρ' hs hr => ?_, h0⟩
    have e1 := hr x (by simp [Op.operands, Call.operands])
    rw [hf _ _ h1] at e1
    have e1 := e1.lit
    have hrun2 : (execOp ρ' ⟨dst, .call ⟨.builtin .unsafeSliceData, #[x], ts⟩, ty, pos, after, guard⟩).run P w = .ok (.value (.pointer none)) w := by
      simp [execOp, resolve, invoke, builtin, e1, Sem.run_bind, Lib.run_unsafeSliceData_nil]
    rw [hrun2]
    exact VOut.value hs (.v _) ⟨rfl, rfl⟩
  · exact h0.elim

theorem Sim.shapeOf {base : World} {F : Fro} {h1 h2 : Hp} {w : World} {k s i j : Nat} {es : List (List V)} {e : List V} (hs : Sim base F (h1 ++ (k, .blk s es) :: h2) w) (he : es[i]? = some e) (hj : j < s) {g tot : Nat} (hr : F.r k = some (some (g, tot))) :
    ∃ t, w.shape? g = some (t, tot) ∧ i * s + j < tot := by
  obtain ⟨us, t, fr, c, d, z, y, k1, k2⟩ := hs.find he hr
  refine ⟨t, by unfold World.shape?; rw [c]; simp [z], ?_⟩
  have hi : i < es.length := (List.getElem?_eq_some_iff.1 he).1
  have hlen := y.len
  have : (i + 1) * s ≤ es.length * s := Nat.mul_le_mul_right _ hi
  rw [Nat.succ_mul] at this
  simp at hlen
  omega
theorem x_toU {s0 t e : TypeId} {j0 : TypeInfo} {x : Operand} {K : V → Prop} (hs0 : P.underlying s0 = some (.pointer e)) (ht : P.underlying t = some .unsafePointer) (hj : P.info? e = some j0) (hz : j0.size ≠ 0) (hf : Fits σ ρ) (h0 : on (σ x) fun vx => toUK vx h K) :
    ∃ v, VRead P ⟨dst, .convert s0 t x, ty, pos, after, guard⟩ ρ h v ∧ K v := by
  obtain ⟨vx, h1, h0⟩ := on_get h0
  unfold toUK at h0
  split at h0
  · rename_i s k i j
    obtain ⟨g1, es, g2, rfl, ⟨ee, he, ⟨hjs, hk⟩⟩⟩ := h0.open
    refine ⟨_, fun base F w ρ' hs hr => ?_, hk⟩
    have e1 := hr x (by simp [Op.operands])
    rw [hf _ _ h1] at e1
    generalize hu : ρ' x = u at e1
    cases e1 with
    | ptr _ _ _ _ g tot hk =>
      obtain ⟨T, q1, q2⟩ := hs.shapeOf he hjs hk
      have hrun := Lib.run_to_unsafe (P := P) (w := w) ⟨g, i * s + j, none⟩ hs0 ht hj hz q1 q2
      have hrun2 : (execOp ρ' ⟨dst, .convert s0 t x, ty, pos, after, guard⟩).run P w = .ok (.value (.pointer (some ⟨g, i * s + j, none⟩))) w := by
        simp only [execOp, hu, Sem.run_bind, hrun, Result.andThen_ok, Sem.run_pure]
      rw [hrun2]
      exact VOut.value hs (.ptr _ _ _ _ g tot hk) ⟨rfl, rfl⟩
  · exact h0.elim
theorem x_fromU {s0 t u : TypeId} {j0 : TypeInfo} {x : Operand} {K : V → Prop} (hs0 : P.underlying s0 = some .unsafePointer) (ht : P.underlying t = some (.pointer u)) (hj : P.info? u = some j0) (hf : Fits σ ρ) (h0 : on (σ x) fun vx => fromUK P u vx h K) :
    ∃ v, VRead P ⟨dst, .convert s0 t x, ty, pos, after, guard⟩ ρ h v ∧ K v := by
  obtain ⟨vx, h1, h0⟩ := on_get h0
  unfold fromUK at h0
  split at h0
  · rename_i s k j
    obtain ⟨g1, es, g2, rfl, ⟨c, hc1, hc0, hc2, hk⟩⟩ := h0.open
    refine ⟨_, fun base F w ρ' hs hr => ?_, hk⟩
    have e1 := hr x (by simp [Op.operands])
    rw [hf _ _ h1] at e1
    generalize hu : ρ' x = u at e1
    cases e1 with
    | ptr _ _ _ _ g tot hk =>
      obtain ⟨n, q1, q2⟩ := hs.typ _ _ _ _ hk hc1
      obtain rfl : n = c % 1000 := by
        rcases q2 with q2 | q2
        · exact absurd q2 hc0
        · exact q2
      rw [Nat.zero_mul, Nat.zero_add] at *
      have hrun := Lib.run_from_unsafe (P := P) (w := w) ⟨g, j, none⟩ hs0 ht hj q1 hc2
      have hrun2 : (execOp ρ' ⟨dst, .convert s0 t x, ty, pos, after, guard⟩).run P w = .ok (.value (.pointer (some ⟨g, j, none⟩))) w := by
        simp only [execOp, hu, Sem.run_bind, hrun, Result.andThen_ok, Sem.run_pure]
      rw [hrun2]
      refine VOut.value hs ?_ ⟨rfl, rfl⟩
      have := Rep.ptr (F := F) s k 0 j g tot hk
      rwa [Nat.zero_mul, Nat.zero_add] at this
  · exact h0.elim

theorem x_ext {f : FuncId} {args : Array Operand} {ats : Array TypeId} (hf : Fits σ ρ) (hfn : ρ (.func f) = .v (.func (.func f) #[] #[])) (h0 : onL σ args.toList fun vs => XCalls P f vs h K KP) : VOp P ⟨dst, .call ⟨.value (.func f), args, ats⟩, ty, pos, after, guard⟩ ρ h K KP := by
  obtain ⟨vs, h1, hc⟩ := onL_get h0
  have hvs := h1 ρ hf
  intro base F w ρ' hs hr
  have hargs : RepL F (args.toList.map ρ) (args.map ρ').toList := by
    have := RepL.map_ops (F := F) (ρ := ρ) (ρ' := ρ') (xs := args.toList) (fun x hx => hr x (by simp [Op.operands, Call.operands]; right; simpa using hx))
    simpa using this
  have h2 := hr (.func f) (by simp [Op.operands, Call.operands])
  rw [hvs] at hargs
  have hrun : (execOp ρ' ⟨dst, .call ⟨.value (.func f), args, ats⟩, ty, pos, after, guard⟩).run P w = (callFunc f (args.map ρ')).run P w := by
    have h3 : ρ' (.func f) = .func (.func f) #[] #[] := by
      rw [hfn] at h2
      exact h2.lit
    simp only [execOp, resolve, h3, Deferred.ofValue, Sem.run_bind, Sem.run_pure, Result.andThen_ok, invoke]
    simp
  rw [hrun]
  exact hc.run base F _ w hs hargs
theorem x_cap {t e : TypeId} {x : Operand} {args : Array Operand} {ts : Array TypeId} (ha : args.toList = [x]) (hts : ts.toList = [t]) (ht : P.underlying t = some (.slice e)) (hf : Fits σ ρ) (h0 : on (σ x) fun vx => capK vx h K) : VOp P ⟨dst, .call ⟨.builtin .cap, args, ts⟩, ty, pos, after, guard⟩ ρ h K KP := by
  obtain ⟨vx, h1, h0⟩ := on_get h0
  obtain rfl : args = #[x] := by cases args; simp_all
  obtain rfl : ts = #[t] := by cases ts; simp_all
  intro base F w ρ' hs hr
  have e1 := hr x (by simp [Op.operands, Call.operands])
  rw [hf _ _ h1] at e1
  have hrun : ∀ a n c, ρ' x = .slice a n c → (execOp ρ' ⟨dst, .call ⟨.builtin .cap, #[x], #[t]⟩, ty, pos, after, guard⟩).run P w = .ok (.value (.int .i64 c)) w := fun a n c hu => by
    simp [execOp, resolve, invoke, builtin, Builtin.cap_, run_underlying ht, hu, goInt]
  unfold capK at h0
  split at h0
  · generalize hu : ρ' x = u at e1
    cases e1 with
    | osl0 => rw [hrun _ _ _ hu]; exact VOut.value hs (.v _) (h0 0 (by omega) (by omega))
    | osl _ _ _ _ c g tot hk hnc htot hc => rw [hrun _ _ _ hu]; exact VOut.value hs (.v _) (h0 c hnc hc)
  · rw [hrun _ _ _ e1.lit]; exact VOut.value hs (.v _) h0
  · exact h0.elim
theorem x_allocT {t : TypeId} {b : Bool} {sz : Nat} {zs : List Value} (hl : lay P t = some (b, sz)) (hz : zero? P t = some zs) (hzl : zs.length = sz) (hsz : sz < 1000) (h0 : forceL (zs.map .v) fun ys => NewC (fun k => nameT k = some (t * 1000 + sz)) fun k => K (.ptr sz k 0 0) ((k, .blk sz [ys]) :: h)) : VOp P ⟨dst, .alloc t, ty, pos, after, guard⟩ ρ h K KP := by
  rw [forceL_iff] at h0
  intro base F w ρ' hs hr
  obtain ⟨z, z1, z2⟩ := run_zero hz w
  have hrr : RepR F sz [zs.map V.v] z.cells.toList := by
    rw [z2]
    exact .cons sz _ _ _ (by simpa using hzl) (RepL.lits zs).toP (.nil _ _)
  have hcs : z.cells.size = sz := by
    have : z.cells.toList.length = sz := by rw [z2]; exact hzl
    simpa using this
  have hg : Sim base F h (w.alloc (.cells z.cells t)) := hs.grown_none (World.grownBy_alloc w (.cells z.cells t) none)
  have hff := hs.fro_lt (Nat.le_refl w.heap.size)
  obtain ⟨k, k0, k1, k2, k3, k4, k5⟩ := hg.namedT w.heap.size z.cells.size (t * 1000 + sz) ⟨hs.below.size, by simp, fun k tot hr => by
      have := (hs.adr _ _ _ hr).2
      omega⟩ (by
      unfold World.shape?
      rw [heap_alloc_new]
      simp only [hcs]
      have key : ∀ a b : Nat, b < 1000 → (a * 1000 + b) / 1000 = a ∧ (a * 1000 + b) % 1000 = b := fun a b hb => by omega
      rw [(key t sz hsz).1, (key t sz hsz).2]
      exact ⟨sz, rfl, .inr rfl⟩)
  simp only [execOp, Instr.alloc, newVar, newRow, Sem.run_bind, z1, run_newObj, Result.andThen_ok, Sem.run_pure]
  refine ⟨_, _, k4, Sim.cons k5 k2 (c := .blk sz [zs.map V.v]) (.inr ⟨_, _, z.cells, t, (0, 0), k3, hff, heap_alloc_new w _, fun i _ => by omega, rfl, hrr.mono k4⟩), _, ?_, h0.allc k k0⟩
  have := Rep.ptr (F := F.name k (some (w.heap.size, z.cells.size))) sz k 0 0 _ _ k3
  simpa using this
theorem x_boxT {t : TypeId} {x : Operand} {b : Bool} {sz : Nat} (hl : lay P t = some (b, sz)) (hb : b = true ∨ sz = 1) (hsz : sz < 1000) (hf : Fits σ ρ) (h0 : on (σ x) fun v => cellsK b sz v fun ys => NewC (fun k => nameT k = some (t * 1000 + sz)) fun k => K (.ptr sz k 0 0) ((k, .blk sz [ys]) :: h)) : VOp P ⟨dst, .box t x, ty, pos, after, guard⟩ ρ h K KP := by
  obtain ⟨vx, h1, hz⟩ := on_get h0
  have hx := hf _ _ h1
  obtain ⟨c1, c2, c3⟩ := cellsK_get hz
  intro base F w ρ' hs hr
  have e1 := hr x (by simp [Op.operands]); rw [hx] at e1
  have hcs := e1.cells c1
  have hszl : vx.cells.length = sz := by
    rw [c2]
    rcases hb with rfl | rfl
    · rfl
    · simp
  have hrr : RepR F sz [vx.cells] (ρ' x).cells.toList := .cons sz _ _ _ hszl hcs.toP (.nil _ _)
  have hcs2 : (ρ' x).cells.size = sz := by
    have := hcs.length
    rw [hszl] at this
    simpa using this.symm
  have hg : Sim base F h (w.alloc (.cells (ρ' x).cells t)) := hs.grown_none (World.grownBy_alloc w (.cells (ρ' x).cells t) none)
  have hff := hs.fro_lt (Nat.le_refl w.heap.size)
  obtain ⟨k, k0, k1, k2, k3, k4, k5⟩ := hg.namedT w.heap.size (ρ' x).cells.size (t * 1000 + sz) ⟨hs.below.size, by simp, fun k tot hr => by
      have := (hs.adr _ _ _ hr).2
      omega⟩ (by
      unfold World.shape?
      rw [heap_alloc_new]
      simp only [hcs2]
      have key : ∀ a b : Nat, b < 1000 → (a * 1000 + b) / 1000 = a ∧ (a * 1000 + b) % 1000 = b := fun a b hb => by omega
      rw [(key t sz hsz).1, (key t sz hsz).2]
      exact ⟨sz, rfl, .inr rfl⟩)
  simp only [execOp, Instr.box, newVar, newRow, Sem.run_bind, run_newObj, Result.andThen_ok, Sem.run_pure]
  refine ⟨_, _, k4, Sim.cons k5 k2 (c := .blk sz [vx.cells]) (.inr ⟨_, _, (ρ' x).cells, t, (0, 0), k3, hff, heap_alloc_new w _, fun i _ => by omega, rfl, hrr.mono k4⟩), _, ?_, c3.allc k k0⟩
  have := Rep.ptr (F := F.name k (some (w.heap.size, (ρ' x).cells.size))) sz k 0 0 _ _ k3
  simpa using this
theorem x_srng {t : TypeId} {x : Operand} (ht : P.underlying t = some .string) (hf : Fits σ ρ) (h0 : on (σ x) fun vx => srngK vx h K) : VOp P ⟨dst, .range t x, ty, pos, after, guard⟩ ρ h K KP := by
  obtain ⟨vx, h1, h0⟩ := on_get h0
  unfold srngK at h0
  split at h0
  · rename_i s
    intro base F w ρ' hs hr
    have e1 := hr x (by simp [Op.operands])
    rw [hf _ _ h1] at e1
    have e1 := e1.lit
    have hg : Sim base F h (w.alloc (.stringIter s 0)) := hs.grown_none (World.grownBy_alloc w _ none)
    have hff := hs.fro_lt (Nat.le_refl w.heap.size)
    obtain ⟨k, k1, k2, k3, k4, k5⟩ := hg.named (some (w.heap.size, 0)) (fun g tot he => by
      cases he
      refine ⟨hs.below.size, by simp, fun k tot hr => ?_⟩
      have := (hs.adr _ _ _ hr).2
      omega)
    have hrun : (execOp ρ' ⟨dst, .range t x, ty, pos, after, guard⟩).run P w = .ok (.value (.pointer (some ⟨w.heap.size, 0, none⟩))) (w.alloc (.stringIter s 0)) := by
      simp [execOp, Instr.range, run_underlying ht, e1, Sem.run_bind, run_newObj]
    rw [hrun]
    refine ⟨_, _, k4, Sim.cons k5 k2 (c := .obj (.stringIter s 0)) ⟨_, _, k3, hff, heap_alloc_new w _⟩, _, ?_, h0.all k⟩
    have := Rep.ptr (F := F.name k (some (w.heap.size, 0))) 1 k 0 0 _ _ k3
    simpa using this
  · exact h0.elim

/-- An object of the call's own is turned. -/
theorem Sim.putO {base : World} {F : Fro} {h1 h2 : Hp} {w : World} {k g tot : Nat} {o o' : Obj} (hs : Sim base F (h1 ++ (k, .obj o) :: h2) w) (hk : F.r k = some (some (g, tot))) (hsh : ∀ c t fr, o ≠ .cells c t fr) : Sim base F (h1 ++ (k, .obj o') :: h2) (w.putObj g o') := by
  obtain ⟨s1, s2, s3⟩ := hs.out
  obtain ⟨g', tot', a1, a2, a3⟩ := s3
  rw [hk] at a1
  cases a1
  have hlt : g < w.heap.size := (Array.getElem?_eq_some_iff.1 a3).1
  have s4 : Sim base F (h1 ++ h2) (w.putObj g o') := by
    refine s1.grown (grownBy_putObj' _ _ _) (fun g' e => ?_) (fun g' e => ?_)
    · cases e
      refine ⟨(hs.adr _ _ _ hk).1, a2, fun k2 tot2 c hr hm => ?_⟩
      have := hs.inj _ _ _ _ _ hr hk
      subst this
      exact s2 c hm
    · cases e
      intro k2 tot2 T hr hn
      obtain ⟨n2, hsh2, _⟩ := hs.typ _ _ _ _ hr hn
      unfold World.shape? at hsh2
      rw [a3] at hsh2
      cases o <;> first | exact absurd rfl (hsh _ _ _) | (simp at hsh2)
  exact s4.mid s2 ⟨g, tot, hk, a2, World.putObj_heap_same hlt⟩
theorem x_snxt {x : Operand} (hf : Fits σ ρ) (h0 : on (σ x) fun vx => snxtK vx h K) : VOp P ⟨dst, .next x true, ty, pos, after, guard⟩ ρ h K KP := by
  obtain ⟨vx, h1, h0⟩ := on_get h0
  unfold snxtK at h0
  split at h0
  · rename_i k
    obtain ⟨g1, o, g2, rfl, h5⟩ := h0.open
    unfold strAt at h5
    split at h5
    · rename_i s p _
      intro base F w ρ' hs hr
      have e1 := hr x (by simp [Op.operands])
      rw [hf _ _ h1] at e1
      obtain ⟨g', tot', a1, a2, a3⟩ := hs.out.2.2
      generalize hu : ρ' x = u at e1
      cases e1 with
      | ptr _ _ _ _ g tot hk =>
        rw [hk] at a1
        cases a1
        by_cases hp : p < s.size
        · have h0 := h5.t (decide_eq_true hp)
          have hrun : (execOp ρ' ⟨dst, .next x true, ty, pos, after, guard⟩).run P w = .ok (.value (.tuple #[.bool true, goInt p, .int .i32 (Utf8.decode s p).1])) (w.putObj g' (.stringIter s (p + (Utf8.decode s p).2))) := by
            simp [execOp, Instr.next, hu, Sem.run_bind, getObj, setObj, Sem.run, a3, hp, Result.andThen, World.putObj]
          rw [hrun]
          refine ⟨F, _, FLe.refl F, Sim.putO hs hk (fun _ _ _ hh => by cases hh), _, ?_, h0⟩
          exact .tup _ _ (.cons _ _ _ _ (.v _) (.cons _ _ _ _ (.v _) (.cons _ _ _ _ (.v _) .nil)))
        · have h0 := h5.f (decide_eq_false hp)
          have hrun : (execOp ρ' ⟨dst, .next x true, ty, pos, after, guard⟩).run P w = .ok (.value (.tuple #[.bool false])) w := by
            simp [execOp, Instr.next, hu, Sem.run_bind, getObj, setObj, Sem.run, a3, hp, Result.andThen]
          rw [hrun]
          exact ⟨F, _, FLe.refl F, hs, _, .tup _ _ (.cons _ _ _ _ (.v _) .nil), h0⟩
    · exact h5.elim
  · exact h0.elim

theorem shape_freeze (w : World) (g n : Nat) : (w.freeze ⟨g, 0, none⟩ n).shape? g = w.shape? g := by
  by_cases hn : n = 0
  · simp [World.freeze, hn]
  · unfold World.shape?
    have : (w.freeze ⟨g, 0, none⟩ n).heap[g]? = (w.heap[g]?).map fun o => match o with
        | .cells c elem (lo, hi) => .cells c elem (if lo == hi then (0, 0 + n) else (min lo 0, max hi (0 + n)))
        | o => o := by
      unfold World.freeze
      rw [if_neg hn]
      simp only [Array.getElem?_modify, if_true]
      rfl
    rw [this]
    cases w.heap[g]? with
    | none => rfl
    | some o => cases o <;> rfl
theorem grown_freeze (w : World) (g n : Nat) : w.grownBy (w.freeze ⟨g, 0, none⟩ n) (some g) := by
  unfold World.freeze
  split
  · exact World.grownBy.refl w _
  · exact ⟨rfl, rfl, rfl, by simp, fun k hk hne => by
      rw [Array.getElem?_modify, if_neg]
      intro he; exact hne (congrArg some he.symm)⟩
theorem x_ustr {pt it e : TypeId} {x n : Operand} {args : Array Operand} {ts : Array TypeId} (ha : args.toList = [x, n]) (hts : ts.toList = [pt, it]) (hp : P.underlying pt = some (.pointer e)) (hc : P.cellsOf e = 1) (hf : Fits σ ρ)
    (h0 : on (σ x) fun vx => on (σ n) fun vn => ustrK (e * 1000) vx vn h K) : VOp P ⟨dst, .call ⟨.builtin .unsafeString, args, ts⟩, ty, pos, after, guard⟩ ρ h K KP := by
  obtain ⟨vx, h1, h0⟩ := on_get h0
  obtain ⟨vn, h2, h0⟩ := on_get h0
  obtain rfl : args = #[x, n] := by cases args; simp_all
  obtain rfl : ts = #[pt, it] := by cases ts; simp_all
  intro base F w ρ' hs hr
  have e1 := hr x (by simp [Op.operands, Call.operands])
  have e2 := hr n (by simp [Op.operands, Call.operands])
  rw [hf _ _ h1] at e1
  rw [hf _ _ h2] at e2
  have hrun : (execOp ρ' ⟨dst, .call ⟨.builtin .unsafeString, #[x, n], #[pt, it]⟩, ty, pos, after, guard⟩).run P w = ((do pure (.value (← Builtin.unsafeString_ #[pt, it] ty #[ρ' x, ρ' n]))) : Sem Next).run P w := by
    simp [execOp, resolve, invoke, builtin]
  rw [hrun, Sem.run_bind]
  unfold ustrK at h0
  split at h0
  · obtain ⟨m, hm, h0⟩ := h0
    cases hb : Nat.beq m 0 with
    | false => rw [hb] at h0; exact h0.elim
    | true =>
      rw [hb] at h0
      cases Nat.eq_of_beq_eq_true hb
      rw [e1.lit, e2.lit, hm]
      have := Lib.run_unsafeString_none (P := P) (w := w) pt it ty none
      rw [show ((0 : Nat) : Int) = 0 from rfl, this]
      exact VOut.value hs (.v _) h0
  · obtain ⟨m, hm, ⟨hT, h0⟩⟩ := h0
    obtain ⟨g1, es, g2, rfl, ⟨len, hlen, ⟨⟨hm0, hmle, hm63⟩, ⟨es', hes', ⟨ns, hns, ⟨hbytes, h0⟩⟩⟩⟩⟩⟩ := h0.open
    obtain ⟨s1, s2, s3⟩ := hs.out
    generalize hu : ρ' x = u at e1
    cases e1 with
    | ptr _ _ _ _ g tot hk =>
      rcases s3 with ⟨hv, _⟩ | ⟨g', tot', us, t', fr, a, b, c, d, z, y⟩
      · rw [hk] at hv; cases hv
      · rw [hk] at a
        cases a
        obtain ⟨cn, q1, _⟩ := hs.typ _ _ _ _ hk hT
        have key : ∀ a : Nat, a * 1000 / 1000 = a := fun a => by omega
        rw [key] at q1
        have hcn : cn = us.size := by
          unfold World.shape? at q1
          rw [c] at q1
          simp at q1
          exact q1.2.symm
        have hy := (y.take m)
        rw [show es.take m = rInts .u8 ns by rw [← hns, ← hes', List.drop_zero]] at hy
        have hints := hy.ints
        have hnl : ns.length = m := by
          have h1 : es'.length = m := by rw [← hes', List.drop_zero, List.length_take, hlen]; omega
          rw [hns, rInts_length] at h1; exact h1
        have hul : es.length ≤ us.toList.length := by have := y.len; omega
        have hml : m ≤ us.size := by simp at hul; omega
        have hll : (ofNums ns).length = m := by simp [ofNums, hnl]
        have hcell : ∀ j x, (ofNums ns)[j]? = some x → w.cell? ((⟨g, 0, none⟩ : Addr).add j) = some (.int .u8 x.toNat) := by
          intro j x hx
          simp only [ofNums, List.getElem?_map, Option.map_eq_some_iff] at hx
          obtain ⟨i, hi, rfl⟩ := hx
          have hb := hbytes i (List.mem_of_getElem? hi)
          have hj : j < ns.length := (List.getElem?_eq_some_iff.1 hi).1
          have h3 : us.toList[j]? = some (.int .u8 i) := by
            have := congrArg (fun l => l[j]?) hints
            simp only [List.getElem?_take, List.getElem?_map, hi] at this
            rw [if_pos hj] at this
            simpa using this
          have h4 : ((⟨g, 0, none⟩ : Addr).add j).block = g ∧ ((⟨g, 0, none⟩ : Addr).add j).off = j ∧ ((⟨g, 0, none⟩ : Addr).add j).spot = none := by unfold Addr.add; split <;> simp_all
          unfold World.cell?
          rw [h4.1, c, h4.2.1, h4.2.2]
          have h5 : (i.toNat : Nat) < 256 := by omega
          have h6 : ((UInt8.ofNat i.toNat).toNat : Int) = i := by
            rw [UInt8.toNat_ofNat']
            omega
          rw [h6]
          simpa using h3
        have hrun2 := Lib.run_unsafeString_row (P := P) (w := w) pt it ty e hp hc g cn q1 (ofNums ns) (fun h => by rw [h] at hll; simp at hll; omega) (by omega) (by omega) hcell
        have s4 : Sim base F (g1 ++ g2) (w.freeze ⟨g, 0, none⟩ (ofNums ns).length) := by
          refine s1.grown (grown_freeze w g _) (fun g' e => ?_) (fun g' e => ?_)
          · cases e
            refine ⟨(hs.adr _ _ _ hk).1, b, fun k2 tot2 c hr hm => ?_⟩
            have := hs.inj _ _ _ _ _ hr hk
            subst this
            exact s2 c hm
          · cases e
            intro _ _ _ _ _
            exact shape_freeze w g _
        rw [e2.lit, hm, show ((m : Nat) : Int) = ((ofNums ns).length : Nat) by rw [hll]]
        have e3 : (⟨g, 0 * 1 + 0, none⟩ : Addr) = ⟨g, 0, none⟩ := rfl
        rw [e3, hrun2]
        exact VOut.value s4 (.v _) h0
  · exact h0.elim

theorem x_gad {t e : TypeId} {n sz : Nat} {b : Bool} {x i : Operand} {K : V → Prop} (ht : P.underlying t = some (.array n e)) (he : lay P e = some (b, sz)) (hf : Fits σ ρ) (h0 : on (σ x) fun vx => on (σ i) fun vi => gadK n sz vx vi K) :
    ∃ v, (∀ h, VRead P ⟨dst, .indexAddr t x i, ty, pos, after, guard⟩ ρ h v) ∧ K v := by
  obtain ⟨vx, h1, h0⟩ := on_get h0
  obtain ⟨vi, h2, h0⟩ := on_get h0
  have hadd : ∀ (g off m : Nat), (⟨g, off, none⟩ : Addr).add (m * sz) = ⟨g, off + m * sz, none⟩ := fun g off m => by unfold Addr.add; split <;> simp_all
  unfold gadK at h0
  split at h0
  · rename_i g off kk z _
    obtain ⟨m, hm, ⟨hlt, h0⟩⟩ := h0
    subst hm
    refine ⟨_, fun h base F w ρ' hs hr => ?_, h0⟩
    have e1 := hr x (by simp [Op.operands])
    have e2 := hr i (by simp [Op.operands])
    rw [hf _ _ h1] at e1
    rw [hf _ _ h2] at e2
    obtain ⟨_, i2, _⟩ := run_isAgg he w
    have hrun : (execOp ρ' ⟨dst, .indexAddr t x i, ty, pos, after, guard⟩).run P w = .ok (.value (.pointer (some ⟨g, off + m * sz, none⟩))) w := by
      simp [execOp, Instr.indexAt, asIntOf, run_underlying ht, e1.lit, e2.lit, Instr.sureAddr, Sem.run_bind, i2, hadd, hlt]
    rw [hrun]
    exact VOut.value hs (.v _) ⟨rfl, rfl⟩
  · rename_i s k i0 j kk z _
    obtain ⟨m, hm, ⟨hlt, h0⟩⟩ := h0
    subst hm
    refine ⟨_, fun h base F w ρ' hs hr => ?_, h0⟩
    have e1 := hr x (by simp [Op.operands])
    have e2 := hr i (by simp [Op.operands])
    rw [hf _ _ h1] at e1
    rw [hf _ _ h2] at e2
    obtain ⟨_, i2, _⟩ := run_isAgg he w
    generalize hu : ρ' x = u at e1
    cases e1 with
    | ptr _ _ _ _ g tot hk =>
      have hrun : (execOp ρ' ⟨dst, .indexAddr t x i, ty, pos, after, guard⟩).run P w = .ok (.value (.pointer (some ⟨g, i0 * s + (j + m * sz), none⟩))) w := by
        simp [execOp, Instr.indexAt, asIntOf, run_underlying ht, hu, e2.lit, Instr.sureAddr, Sem.run_bind, i2, hadd, hlt, Nat.add_assoc]
      rw [hrun]
      exact VOut.value hs (.ptr _ _ _ _ g tot hk) ⟨rfl, rfl⟩
  · exact h0.elim
theorem runes_fold : ∀ (ns : List Int) (s : ByteArray), (ns.foldl (fun s n => s ++ Utf8.encode n) s).data.toList = s.data.toList ++ runesL ns
  | [], s => by simp [runesL]
  | n :: ns, s => by
    rw [List.foldl_cons, runes_fold ns]
    simp [runesL, ByteArray.data_append]
theorem runesBytes_eq (ns : List Int) : runesBytes ns = ⟨⟨runesL ns⟩⟩ := by
  have := runes_fold ns ByteArray.empty
  have h2 : (runesBytes ns).data.toList = runesL ns := by
    unfold runesBytes
    rw [this]
    simp
  rw [← h2]
theorem rst_run {s0 t e : TypeId} {x : Operand} {ρ' : Operand → Value} {F : Fro} {w : World} {g off n c : Nat} {us : Array Value} {t' : TypeId} {fr : Nat × Nat} {ns : List Int} (hs0 : P.underlying s0 = some (.slice e)) (ht : P.underlying t = some .string) (he : P.underlying e = some (.int .i32))
    (hu : ρ' x = .slice (some ⟨g, off, none⟩) n c) (hg : w.heap[g]? = some (.cells us t' fr)) (hrr : RepR F 1 (rInts .i32 ns) (us.toList.drop off)) (hn : n = ns.length) :
    (execOp ρ' ⟨dst, .convert s0 t x, ty, pos, after, guard⟩).run P w = .ok (.value (.string ⟨⟨runesL ns⟩⟩)) w := by
  have hints := hrr.ints
  have hload : (loadCells ⟨g, off, none⟩ n).run P w = .ok (ns.map (Value.int .i32)).toArray w := by
    have hl : n = (ns.map (Value.int .i32)).length := by rw [hn, List.length_map]
    rw [hl]
    refine run_loadCells_list (P := P) w ⟨g, off, none⟩ _ (fun j v hv => ?_)
    rw [Addr.add_mid, cell_of_heap hg]
    rw [← hints] at hv
    have hj : j < ns.length := by
      have := (List.getElem?_eq_some_iff.1 hv).1
      rw [List.length_take] at this; omega
    rw [List.getElem?_take_of_lt hj, List.getElem?_drop] at hv
    simpa using hv
  have hrun := run_runesToString w ⟨g, off, none⟩ n c ns hload
  simp only [execOp, hu, Sem.run_bind, convert, run_underlying hs0, run_underlying ht, run_underlying he, Result.andThen_ok, hrun, Sem.run_pure]
  rw [runesBytes_eq]
theorem x_rst {s0 t e : TypeId} {x : Operand} {K : V → Prop} (hs0 : P.underlying s0 = some (.slice e)) (ht : P.underlying t = some .string) (he : P.underlying e = some (.int .i32)) (hf : Fits σ ρ) (h0 : on (σ x) fun vx => rstK vx h K) :
    ∃ v, VRead P ⟨dst, .convert s0 t x, ty, pos, after, guard⟩ ρ h v ∧ K v := by
  obtain ⟨vx, h1, h0⟩ := on_get h0
  unfold rstK at h0
  split at h0
  · obtain ⟨ns, hns, ⟨hpos, h0⟩⟩ := h0
    subst hns
    refine ⟨_, fun base F w ρ' hs hr => ?_, h0⟩
    have e1 := hr x (by simp [Op.operands])
    rw [hf _ _ h1] at e1
    generalize hu : ρ' x = u at e1
    generalize hes : rInts .i32 ns = es at e1
    cases e1 with
    | row _ _ g off n c us t' fr hF hn hc hrr =>
      subst hes
      have hg := hs.fro g _ hF
      rw [rst_run (c := c) hs0 ht he hu hg hrr (by rw [hn, rInts_length])]
      exact VOut.value hs (.v _) ⟨rfl, rfl⟩
    | row0 _ a c =>
      have := rInts_nil hes.symm
      subst this
      simp at hpos
  · rename_i k off n
    obtain ⟨l1, es, l2, rfl, ⟨m, hm, ⟨hle, ⟨es', hes', ⟨ns, hns, ⟨hpos, hK⟩⟩⟩⟩⟩⟩ := h0.open
    subst hm
    refine ⟨_, fun base F w ρ' hs hr => ?_, hK⟩
    have e1 := hr x (by simp [Op.operands])
    rw [hf _ _ h1] at e1
    generalize hu : ρ' x = u at e1
    have hlen : es'.length = n := by rw [← hes']; simp; omega
    have hnn : n = ns.length := by rw [← hlen, hns, rInts_length]
    cases e1 with
    | osl0 _ _ _ a => omega
    | osl _ _ _ _ c g tot hrk hnc htot hc =>
      rcases hs.out.2.2 with ⟨hv, hv2⟩ | ⟨g', tot', us, t', fr, a, b', c', d, z, y⟩
      · rw [hrk] at hv; cases hv
      · rw [hrk] at a
        cases a
        have h5 := (y.take (off + n)).drop off
        rw [hes', hns] at h5
        rw [rst_run hs0 ht he hu c' (by simpa using h5) hnn]
        exact VOut.value hs (.v _) ⟨rfl, rfl⟩
  · exact h0.elim
theorem ovX_class {o : Oper} {x : OX} (hc : compX P o.op = some x) (hf : Fits σ ρ) (hfn : ∀ f, ρ (.func f) = .v (.func (.func f) #[] #[])) (hk : ovX P x σ h K KP) :
    (clsX x = 0 ∧ ∃ v, (∀ h, VRead P o ρ h v) ∧ K v h) ∨ (clsX x = 1 ∧ ∃ v, VRead P o ρ h v ∧ K v h) ∨ (clsX x = 2 ∧ VOp P o ρ h K KP) := by
  obtain ⟨dst, op, ty, pos, after, guard⟩ := o
  dsimp only at hc
  unfold compX at hc
  split at hc
  · split at hc
    · split at hc
      · rename_i hl hz
        split at hc
        · rename_i hb; cases hc; exact .inr (.inr ⟨rfl, x_allocT hl hz hb.1 hb.2.1 hk⟩)
        · cases hc
      · cases hc
    · cases hc
  · split at hc
    · split at hc
      · rename_i hl
        split at hc
        · rename_i hb; cases hc; exact .inr (.inr ⟨rfl, x_boxT hl hb.1 hb.2.1 hf hk⟩)
        · cases hc
      · cases hc
    · cases hc
  · split at hc
    · rename_i hp
      split at hc
      · rename_i ht
        split at hc
        · rename_i he
          split at hc
          · cases hc
            rename_i parts _ _ _ _ _ _
            have : parts = #[] := by simpa using hp
            subst this
            exact .inl ⟨rfl, x_row0 ht he hk⟩
          · cases hc
        · cases hc
      · cases hc
    · cases hc
  · split at hc
    · rename_i hs0 ht
      split at hc
      · rename_i hj
        split at hc
        · cases hc
        · rename_i hz; cases hc; exact .inr (.inl ⟨rfl, x_toU hs0 ht hj hz hf hk⟩)
      · cases hc
    · rename_i hs0 ht
      split at hc
      · rename_i hj; cases hc; exact .inr (.inl ⟨rfl, x_fromU hs0 ht hj hf hk⟩)
      · cases hc
    · rename_i hs0 ht
      split at hc
      · rename_i he; cases hc; exact .inr (.inl ⟨rfl, x_rst hs0 ht he hf hk⟩)
      · cases hc
    · cases hc
  · split at hc
    · rename_i ht
      split at hc
      · rename_i hj
        split at hc
        · rename_i htt
          obtain ⟨htt, _, _⟩ := htt
          subst htt
          split at hc
          · cases hc; exact .inl ⟨rfl, x_peq (neg := false) ht hj hf hk⟩
          · cases hc; exact .inl ⟨rfl, x_peq (neg := true) ht hj hf hk⟩
          · cases hc
        · cases hc
      · cases hc
    · cases hc
  · split at hc
    · rename_i ha; cases hc; exact .inl ⟨rfl, x_sdat ha hf hk⟩
    · cases hc
  · split at hc
    · rename_i ha hts
      split at hc
      · rename_i hp
        split at hc
        · rename_i hc1
          split at hc
          · cases hc; exact .inr (.inr ⟨rfl, x_ustr ha hts hp hc1 hf hk⟩)
          · cases hc
        · cases hc
      · cases hc
    · cases hc
  · split at hc
    · rename_i ha hts
      split at hc
      · rename_i ht; cases hc; exact .inr (.inr ⟨rfl, x_cap ha hts ht hf hk⟩)
      · cases hc
    · cases hc
  · split at hc
    · cases hc
    · cases hc; exact .inr (.inr ⟨rfl, x_ext hf (hfn _) hk⟩)
  · split at hc
    · rename_i ht
      split at hc
      · rename_i he; cases hc; exact .inl ⟨rfl, x_gad ht he hf hk⟩
      · cases hc
    · cases hc
  · split at hc
    · rename_i ht; cases hc; exact .inr (.inr ⟨rfl, x_srng ht hf hk⟩)
    · cases hc
  · cases hc; exact .inr (.inr ⟨rfl, x_snxt hf hk⟩)
  · cases hc; exact hk.elim
  · cases hc
end
end Go.XW
