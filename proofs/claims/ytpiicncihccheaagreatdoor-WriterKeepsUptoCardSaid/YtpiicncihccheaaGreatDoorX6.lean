/- The operations that look at no block of the call's own, shown against the machine. -/
import Derived.Test.YtpiicncihccheaaGreatDoorX5
set_option linter.unusedVariables false
namespace Go.XW
open Go.RowKit

/-- What an operation comes to, whatever the world. -/
def PureRun (P : Program) (o : Oper) (ρ : Operand → V) (v : V) : Prop :=
  ∀ (F : Fro) (w : World) (ρ' : Operand → Value), (∀ x ∈ o.op.operands, Rep F (ρ x) (ρ' x)) → ∃ u, (execOp ρ' o).run P w = .ok (.value u) w ∧ Rep F v u

/-- It hands back a value, and the world as it was. -/
theorem VOut.value {P : Program} {base : World} {F : Fro} {h : Hp} {K : V → Hp → Prop} {KP : List PanicEntry → Hp → Prop} {w : World} {u : Value} {v : V} (hs : Sim base F h w) (hr : Rep F v u) (hk : K v h) : VOut P base F K KP (.ok (.value u) w) :=
  ⟨F, h, FLe.refl F, hs, v, hr, hk⟩

theorem PureRun.read {P : Program} {o : Oper} {ρ : Operand → V} {v : V} (hp : PureRun P o ρ v) (h : Hp) : VRead P o ρ h v := by
  intro base F w ρ' hs hr
  obtain ⟨u, h1, h2⟩ := hp F w ρ' hr
  rw [h1]
  exact VOut.value hs h2 ⟨rfl, rfl⟩

def Fits (σ : Operand → Option V) (ρ : Operand → V) : Prop := ∀ x v, σ x = some v → ρ x = v

section
variable {P : Program} {ρ : Operand → V} {σ : Operand → Option V} {K : V → Prop} {dst : Option Tmp} {ty : TypeId} {pos : String} {after : Array Edge} {guard : Option (Nat × Bool)}

theorem p_mv {x : Operand} {op : Op} (ho : op = .move x ∨ op = .assign x) (hf : Fits σ ρ) (h : on (σ x) K) : ∃ v, PureRun P ⟨dst, op, ty, pos, after, guard⟩ ρ v ∧ K v := by
  obtain ⟨v, h1, h2⟩ := on_get h
  refine ⟨v, fun F w ρ' hr => ⟨ρ' x, ?_, ?_⟩, h2⟩
  · rcases ho with rfl | rfl <;> rfl
  · rw [← hf _ _ h1]
    rcases ho with rfl | rfl <;> exact hr x (by simp [Op.operands])

theorem p_pick {c a b : Operand} (hf : Fits σ ρ) (h : on (σ c) fun vc => on (σ a) fun va => on (σ b) fun vb => pickK vc (K va) (K vb)) : ∃ v, PureRun P ⟨dst, .pick c a b, ty, pos, after, guard⟩ ρ v ∧ K v := by
  obtain ⟨vc, h1, hz⟩ := on_get h; clear h; have h := hz; clear hz
  obtain ⟨va, h2, hz⟩ := on_get h; clear h; have h := hz; clear hz
  obtain ⟨vb, h3, hz⟩ := on_get h; clear h; have h := hz; clear hz
  unfold pickK at h
  split at h
  · rename_i t
    have key : ∀ F (w : World) (ρ' : Operand → Value), (∀ x ∈ (Op.pick c a b).operands, Rep F (ρ x) (ρ' x)) → ρ' c = .bool t := fun F w ρ' hr => by
      have := hr c (by simp [Op.operands])
      rw [hf _ _ h1] at this
      exact this.lit
    cases t with
    | true =>
      refine ⟨va, fun F w ρ' hr => ⟨ρ' a, ?_, ?_⟩, h.t rfl⟩
      · simp only [execOp, key F w ρ' hr, asBool, Sem.run_bind, Sem.run_pure, Result.andThen_ok, if_true]
      · rw [← hf _ _ h2]; exact hr a (by simp [Op.operands])
    | false =>
      refine ⟨vb, fun F w ρ' hr => ⟨ρ' b, ?_, ?_⟩, h.f rfl⟩
      · simp only [execOp, key F w ρ' hr, asBool, Sem.run_bind, Sem.run_pure, Result.andThen_ok, Bool.false_eq_true, if_false]
      · rw [← hf _ _ h3]; exact hr b (by simp [Op.operands])
  · exact h.elim

theorem p_lit1 {op : Op} {x : Operand} {a r : Value} (hx : x ∈ op.operands) (hρ : ρ x = .v a) (hrun : ∀ (ρ' : Operand → Value) w, ρ' x = a → (execOp ρ' ⟨dst, op, ty, pos, after, guard⟩).run P w = .ok (.value r) w) : PureRun P ⟨dst, op, ty, pos, after, guard⟩ ρ (.v r) := by
  intro F w ρ' hr
  have h1 := hr x hx
  rw [hρ] at h1
  exact ⟨r, hrun ρ' w h1.lit, .v r⟩

theorem p_lit2 {op : Op} {x y : Operand} {a b r : Value} (hx : x ∈ op.operands) (hy : y ∈ op.operands) (hρ : ρ x = .v a) (hρ2 : ρ y = .v b) (hrun : ∀ (ρ' : Operand → Value) w, ρ' x = a → ρ' y = b → (execOp ρ' ⟨dst, op, ty, pos, after, guard⟩).run P w = .ok (.value r) w) : PureRun P ⟨dst, op, ty, pos, after, guard⟩ ρ (.v r) := by
  intro F w ρ' hr
  have h1 := hr x hx
  rw [hρ] at h1
  have h2 := hr y hy
  rw [hρ2] at h2
  exact ⟨r, hrun ρ' w h1.lit h2.lit, .v r⟩

theorem p_bin {op : BinOp} {x y : Operand} {t t2 : TypeId} (hf : Fits σ ρ) (h : on (σ x) fun vx => on (σ y) fun vy => binK op vx vy K) : ∃ v, PureRun P ⟨dst, .binOp op t x y t2, ty, pos, after, guard⟩ ρ v ∧ K v := by
  obtain ⟨vx, h1, hz⟩ := on_get h; clear h; have h := hz; clear hz
  obtain ⟨vy, h2, hz⟩ := on_get h; clear h; have h := hz; clear hz
  obtain ⟨a, b, r, rfl, rfl, h3, h4⟩ := bin_run (P := P) (t := t) (x := x) (y := y) h
  refine ⟨_, p_lit2 (x := x) (y := y) (by simp [Op.operands]) (by simp [Op.operands]) (hf _ _ h1) (hf _ _ h2) (fun ρ' w e1 e2 => ?_), h4⟩
  unfold execOp
  dsimp only
  rw [e1, e2, Sem.run_bind, h3 w]
  rfl

theorem p_binb {op : BinOp} {x y : Operand} {t t2 : TypeId} (ht : P.underlying t = some .bool) (hf : Fits σ ρ) (h : on (σ x) fun vx => on (σ y) fun vy => binbK op vx vy K) : ∃ v, PureRun P ⟨dst, .binOp op t x y t2, ty, pos, after, guard⟩ ρ v ∧ K v := by
  obtain ⟨vx, h1, hz⟩ := on_get h; clear h; have h := hz; clear hz
  obtain ⟨vy, h2, hz⟩ := on_get h; clear h; have h := hz; clear hz
  obtain ⟨a, b, r, rfl, rfl, h3, h4⟩ := binb_run (P := P) (t := t) (x := x) (y := y) ht h
  refine ⟨_, p_lit2 (x := x) (y := y) (by simp [Op.operands]) (by simp [Op.operands]) (hf _ _ h1) (hf _ _ h2) (fun ρ' w e1 e2 => ?_), h4⟩
  unfold execOp
  dsimp only
  rw [e1, e2, Sem.run_bind, h3 w]
  rfl

theorem p_not {x : Operand} {t : TypeId} (hf : Fits σ ρ) (h : on (σ x) fun v => notK v K) : ∃ v, PureRun P ⟨dst, .unOp .not t x, ty, pos, after, guard⟩ ρ v ∧ K v := by
  obtain ⟨vx, h1, hz⟩ := on_get h; clear h; have h := hz; clear hz
  unfold notK at h
  split at h
  · exact ⟨_, p_lit1 (x := x) (by simp [Op.operands]) (hf _ _ h1) (fun ρ' w e1 => by unfold execOp; dsimp only; rw [e1]; rfl), h⟩
  · exact h.elim

theorem p_neg {x : Operand} {t : TypeId} (hf : Fits σ ρ) (h : on (σ x) fun v => negK v K) : ∃ v, PureRun P ⟨dst, .unOp .neg t x, ty, pos, after, guard⟩ ρ v ∧ K v := by
  obtain ⟨vx, h1, hz⟩ := on_get h; clear h; have h := hz; clear hz
  unfold negK at h
  split at h
  · exact ⟨_, p_lit1 (x := x) (by simp [Op.operands]) (hf _ _ h1) (fun ρ' w e1 => by unfold execOp; dsimp only; rw [e1]; rfl), h.get⟩
  · exact h.elim

theorem p_toInt {x : Operand} {s t : TypeId} {k : IntKind} {d : TypeDesc} (hs : P.underlying s = some d) (ht : P.underlying t = some (.int k)) (hf : Fits σ ρ) (h : on (σ x) fun v => toIntK k v K) : ∃ v, PureRun P ⟨dst, .convert s t x, ty, pos, after, guard⟩ ρ v ∧ K v := by
  obtain ⟨vx, h1, hz⟩ := on_get h; clear h; have h := hz; clear hz
  unfold toIntK at h
  split at h
  · refine ⟨_, p_lit1 (x := x) (by simp [Op.operands]) (hf _ _ h1) (fun ρ' w e1 => ?_), h.get⟩
    unfold execOp; dsimp only; rw [e1]
    simp only [convert, Sem.run_bind, run_underlying hs, run_underlying ht, Result.andThen_ok, Conv.intToInt, Sem.run_pure]
  · exact h.elim

theorem p_lens {x : Operand} {t : TypeId} (ht : P.underlying t = some .string) (hf : Fits σ ρ) (h : on (σ x) fun v => lensK v K) : ∃ v, PureRun P ⟨dst, .call ⟨.builtin .len, #[x], #[t]⟩, ty, pos, after, guard⟩ ρ v ∧ K v := by
  obtain ⟨vx, h1, hz⟩ := on_get h; clear h; have h := hz; clear hz
  unfold lensK at h
  split at h
  · refine ⟨_, p_lit1 (x := x) (by simp [Op.operands, Call.operands]) (hf _ _ h1) (fun ρ' w e1 => ?_), h⟩
    simp [execOp, resolve, invoke, builtin, Builtin.len_, run_underlying ht, e1, goInt]
    rfl
  · exact h.elim

theorem p_lenr {x : Operand} {t e : TypeId} (ht : P.underlying t = some (.slice e)) (hf : Fits σ ρ) (h : on (σ x) fun v => lenrK v K) : ∃ v, PureRun P ⟨dst, .call ⟨.builtin .len, #[x], #[t]⟩, ty, pos, after, guard⟩ ρ v ∧ K v := by
  obtain ⟨vx, h1, hz⟩ := on_get h; clear h; have h := hz; clear hz
  have key : ∀ n, (∀ F (u : Value), Rep F vx u → ∃ a c, u = .slice a n c) → PureRun P ⟨dst, .call ⟨.builtin .len, #[x], #[t]⟩, ty, pos, after, guard⟩ ρ (int n) := by
    intro n hn F w ρ' hr
    have h3 := hr x (by simp [Op.operands, Call.operands])
    rw [hf _ _ h1] at h3
    obtain ⟨a, c, hu⟩ := hn F _ h3
    refine ⟨.int .i64 n, ?_, .v _⟩
    simp [execOp, resolve, invoke, builtin, Builtin.len_, run_underlying ht, hu, goInt]
  unfold lenrK at h
  split at h
  · obtain ⟨n, h2, h3⟩ := h
    subst h2
    refine ⟨_, key _ fun F u hu => ?_, h3⟩
    cases hu with
    | row0 _ a c => exact ⟨a, c, rfl⟩
    | row _ _ g off n c vs t fr _ hn => exact ⟨_, c, by rw [hn]⟩
  · refine ⟨_, key _ fun F u hu => ?_, h⟩
    cases hu with
    | osl0 _ _ _ a => exact ⟨a, 0, rfl⟩
    | osl _ _ _ _ c g tot => exact ⟨_, c, rfl⟩
  · refine ⟨_, key _ fun F u hu => ?_, h⟩
    have := hu.lit
    subst this
    exact ⟨_, _, rfl⟩
  · exact h.elim

theorem p_mx {b : Bool} {bi : Builtin} (hb : bi = if b then .max else .min) {x y : Operand} {ts : Array TypeId} (hf : Fits σ ρ) (h : on (σ x) fun vx => on (σ y) fun vy => mxK b vx vy K) : ∃ v, PureRun P ⟨dst, .call ⟨.builtin bi, #[x, y], ts⟩, ty, pos, after, guard⟩ ρ v ∧ K v := by
  obtain ⟨vx, h1, hz⟩ := on_get h; clear h; have h := hz; clear hz
  obtain ⟨vy, h2, hz⟩ := on_get h; clear h; have h := hz; clear hz
  unfold mxK at h
  split at h
  · rename_i k i k' j
    cases hk : kEq k k' with
    | false => rw [hk] at h; exact h.elim
    | true =>
      rw [hk] at h
      have := kEq_eq hk
      subst this
      subst hb
      cases b with
      | true =>
        refine ⟨_, p_lit2 (x := x) (y := y) (by simp [Op.operands, Call.operands]) (by simp [Op.operands, Call.operands]) (hf _ _ h1) (hf _ _ h2) (fun ρ' w e1 e2 => ?_), h⟩
        have : (Builtin.max2 (.int k i) (.int k j)).run P w = .ok (.int k (max i j)) w := by
          simp only [Builtin.max2, Sem.run_pure]; congr 2; split <;> omega
        simp [execOp, resolve, invoke, builtin, Builtin.max_, e1, e2, this]
      | false =>
        refine ⟨_, p_lit2 (x := x) (y := y) (by simp [Op.operands, Call.operands]) (by simp [Op.operands, Call.operands]) (hf _ _ h1) (hf _ _ h2) (fun ρ' w e1 e2 => ?_), h⟩
        have : (Builtin.min2 (.int k i) (.int k j)).run P w = .ok (.int k (min i j)) w := by
          simp only [Builtin.min2, Sem.run_pure]; congr 2; split <;> omega
        simp [execOp, resolve, invoke, builtin, Builtin.min_, e1, e2, this]
  · exact h.elim

theorem p_sidx {x i : Operand} {t : TypeId} (ht : P.underlying t = some .string) (hf : Fits σ ρ) (h : on (σ x) fun v => on (σ i) fun vi => sidxK v vi K) : ∃ v, PureRun P ⟨dst, .index t x i, ty, pos, after, guard⟩ ρ v ∧ K v := by
  obtain ⟨vx, h1, hz⟩ := on_get h; clear h; have h := hz; clear hz
  obtain ⟨vy, h2, hz⟩ := on_get h; clear h; have h := hz; clear hz
  unfold sidxK at h
  split at h
  · rename_i l k z
    obtain ⟨n, h3, h4, h5⟩ := h
    subst h3
    refine ⟨_, p_lit2 (x := x) (y := i) (by simp [Op.operands]) (by simp [Op.operands]) (hf _ _ h1) (hf _ _ h2) (fun ρ' w e1 e2 => ?_), h5⟩
    have hg : (ByteArray.mk (Array.mk l))[n]? = some (l.getD n 0) := by
      rw [getElem?_pos (ByteArray.mk (Array.mk l)) n h4]
      simp [List.getD, h4]
      rfl
    have h0 : (0 : Int) ≤ n := by omega
    unfold execOp
    dsimp only
    rw [e1, e2]
    simp only [Instr.index, asIntOf, Sem.run_bind, Sem.run_pure, Result.andThen_ok, run_underlying ht, h0, if_true, Int.toNat_natCast, hg]
  · exact h.elim

theorem bndK_get {x : Option Operand} {d : Nat} {K : Nat → Prop} (hf : Fits σ ρ) (h : bndK σ x d K) : ∃ n, K n ∧ ((x = none ∧ n = d) ∨ ∃ y k, x = some y ∧ ρ y = .v (.int k n)) := by
  cases x with
  | none => exact ⟨d, h, .inl ⟨rfl, rfl⟩⟩
  | some y =>
    obtain ⟨v, h1, hz⟩ := on_get h; clear h; have h := hz; clear hz
    split at h
    · obtain ⟨n, h2, h3⟩ := h
      subst h2
      exact ⟨n, h3, .inr ⟨y, _, rfl, hf _ _ h1⟩⟩
    · exact h.elim

theorem p_ssl {x : Operand} {lo hi : Option Operand} {t : TypeId} (ht : P.underlying t = some .string) (hf : Fits σ ρ) (h : on (σ x) fun v => sslK σ v lo hi K) : ∃ v, PureRun P ⟨dst, .slice t x lo hi none, ty, pos, after, guard⟩ ρ v ∧ K v := by
  obtain ⟨vx, h1, hz⟩ := on_get h; clear h; have h := hz; clear hz
  have hx := hf _ _ h1
  unfold sslK at h
  split at h
  · rename_i l
    have hsz : (ByteArray.mk (Array.mk l)).size = l.length := rfl
    have hext : ∀ a b, a ≤ b → b ≤ l.length → (ByteArray.mk (Array.mk l)).extract a b = ⟨⟨(l.take b).drop a⟩⟩ := fun a b h1 h2 => by
      apply ByteArray.ext
      simp [ByteArray.data_extract, List.extract_eq_take_drop, List.drop_take]
    rcases lo with _ | y <;> rcases hi with _ | y2 <;> dsimp only at h
    · refine ⟨_, fun F w ρ' hr => ⟨str l, ?_, .v _⟩, h⟩
      have e1 := hr x (by simp [Op.operands]); rw [hx] at e1; have e1 := e1.lit
      unfold execOp
      have := hext 0 l.length (by omega) (by omega)
      simp [e1, Instr.sliceAt, run_underlying ht, Instr.slice, Instr.sliceBounds]
    · obtain ⟨n, ⟨h2, h3⟩, hh⟩ := bndK_get hf h
      rcases hh with ⟨hh, _⟩ | ⟨z, k, hy, hh⟩
      · cases hh
      · cases hy
        refine ⟨_, fun F w ρ' hr => ⟨str (l.take n), ?_, .v _⟩, h3⟩
        have e1 := hr x (by simp [Op.operands]); rw [hx] at e1; have e1 := e1.lit
        have e2 := hr y2 (by simp [Op.operands]); rw [hh] at e2; have e2 := e2.lit
        have hc : (0 : Int) ≤ n ∧ (n : Int) ≤ (l.length : Int) := by omega
        have := hext 0 n (by omega) h2
        unfold execOp
        simp [e1, e2, Instr.sliceAt, run_underlying ht, Instr.slice, Instr.sliceBounds, Instr.sliceBound, asIntOf, hsz, hc, this, h2]
    · obtain ⟨n, ⟨h2, h3⟩, hh⟩ := bndK_get hf h
      rcases hh with ⟨hh, _⟩ | ⟨z, k, hy, hh⟩
      · cases hh
      · cases hy
        refine ⟨_, fun F w ρ' hr => ⟨str (l.drop n), ?_, .v _⟩, h3⟩
        have e1 := hr x (by simp [Op.operands]); rw [hx] at e1; have e1 := e1.lit
        have e2 := hr y (by simp [Op.operands]); rw [hh] at e2; have e2 := e2.lit
        have hc : (0 : Int) ≤ n ∧ (n : Int) ≤ (l.length : Int) := by omega
        have := hext n l.length h2 (by omega)
        unfold execOp
        simp [e1, e2, Instr.sliceAt, run_underlying ht, Instr.slice, Instr.sliceBounds, Instr.sliceBound, asIntOf, hsz, hc, this, h2]
    · obtain ⟨a, h5, hh⟩ := bndK_get hf h
      obtain ⟨b, ⟨⟨h2, h3⟩, h4⟩, hh2⟩ := bndK_get hf h5
      rcases hh with ⟨hh, _⟩ | ⟨z, k, hy, hh⟩
      · cases hh
      · rcases hh2 with ⟨hh2, _⟩ | ⟨z2, k2, hy2, hh2⟩
        · cases hh2
        · cases hy; cases hy2
          refine ⟨_, fun F w ρ' hr => ⟨str ((l.take b).drop a), ?_, .v _⟩, h4⟩
          have e1 := hr x (by simp [Op.operands]); rw [hx] at e1; have e1 := e1.lit
          have e2 := hr y (by simp [Op.operands]); rw [hh] at e2; have e2 := e2.lit
          have e3 := hr y2 (by simp [Op.operands]); rw [hh2] at e3; have e3 := e3.lit
          have hc : (0 : Int) ≤ b ∧ (b : Int) ≤ (l.length : Int) := by omega
          have hc2 : (0 : Int) ≤ a ∧ (a : Int) ≤ (b : Int) := by omega
          have := hext a b h2 h3
          unfold execOp
          simp [e1, e2, e3, Instr.sliceAt, run_underlying ht, Instr.slice, Instr.sliceBounds, Instr.sliceBound, asIntOf, hsz, hc, hc2, this, h2, h3]
  · exact h.elim

theorem p_ext {x : Operand} {i : Nat} (hf : Fits σ ρ) (h : on (σ x) fun v => extK v i K) : ∃ v, PureRun P ⟨dst, .extract x i, ty, pos, after, guard⟩ ρ v ∧ K v := by
  obtain ⟨vx, h1, hz⟩ := on_get h; clear h; have h := hz; clear hz
  have hx := hf _ _ h1
  unfold extK at h
  split at h
  · obtain ⟨c, h2, h3⟩ := nthK_get h
    refine ⟨c, fun F w ρ' hr => ?_, h3⟩
    have e1 := hr x (by simp [Op.operands]); rw [hx] at e1
    unfold execOp
    dsimp only
    generalize ρ' x = u at e1
    cases e1 with
    | tup _ us hl2 =>
      obtain ⟨u, hu, hr2⟩ := hl2.get h2
      have hu2 : us[i]? = some u := by simpa using hu
      exact ⟨u, by simp only [Instr.extract, hu2, Sem.run_bind, Sem.run_pure, Result.andThen_ok], hr2⟩
  · exact h.elim

theorem fld_open {s : TypeId} {f o sz : Nat} {b : Bool} (h : fld P s f = some (o, b, sz)) : ∃ (fs : Array Field) (fd : Field), P.underlying s = some (.struct fs) ∧ fs[f]? = some fd ∧ fd.offset = o ∧ lay P fd.type = some (b, sz) := by
  unfold fld at h
  split at h
  · rename_i fs hu
    split at h
    · rename_i fd hf
      split at h
      · rename_i b' sz' hl
        simp at h
        obtain ⟨rfl, rfl, rfl⟩ := h
        exact ⟨fs, fd, hu, hf, rfl, hl⟩
      · cases h
    · cases h
  · cases h

theorem p_fld {s : TypeId} {x : Operand} {f o sz : Nat} {b : Bool} (hl : fld P s f = some (o, b, sz)) (hf : Fits σ ρ) (h : on (σ x) fun v => fldK v o sz b K) : ∃ v, PureRun P ⟨dst, .field s x f, ty, pos, after, guard⟩ ρ v ∧ K v := by
  obtain ⟨vx, h1, hz⟩ := on_get h; clear h; have h := hz; clear hz
  have hx := hf _ _ h1
  obtain ⟨fs, fd, k1, k2, rfl, k4⟩ := fld_open hl
  unfold fldK at h
  split at h
  · cases b with
    | true =>
      dsimp only at h
      obtain ⟨h2, h⟩ := skipK_get h
      obtain ⟨h3, h⟩ := takeK_get h
      refine ⟨_, fun F w ρ' hr => ?_, h⟩
      obtain ⟨i1, i2, _⟩ := run_isAgg k4 w
      have e1 := hr x (by simp [Op.operands]); rw [hx] at e1
      unfold execOp
      dsimp only
      generalize ρ' x = u at e1
      cases e1 with
      | agg _ us hl2 =>
        refine ⟨_, by simp [Instr.field, run_underlying k1, k2, asAgg, part, i1, i2]; rfl, .agg _ _ ?_⟩
        have := (hl2.drop fd.offset).take sz
        simpa [Array.toList_extract, List.extract_eq_take_drop] using this
    | false =>
      obtain ⟨c, h2, h⟩ := nthK_get h
      refine ⟨_, fun F w ρ' hr => ?_, h⟩
      obtain ⟨i1, i2, _⟩ := run_isAgg k4 w
      have e1 := hr x (by simp [Op.operands]); rw [hx] at e1
      unfold execOp
      dsimp only
      generalize ρ' x = u at e1
      cases e1 with
      | agg _ us hl2 =>
        obtain ⟨u, hu, hr2⟩ := hl2.get h2
        have hu2 : us[fd.offset]? = some u := by simpa using hu
        exact ⟨u, by simp [Instr.field, run_underlying k1, k2, asAgg, part, i1, hu2], hr2⟩
  · exact h.elim

theorem run_fieldAt {s : TypeId} {f o sz : Nat} {b : Bool} (hf : fld P s f = some (o, b, sz)) (hsz : sz ≠ 0) (g off : Nat) (w : World) : (Instr.fieldAt s (.pointer (some ⟨g, off, none⟩)) f).run P w = .ok (.pointer (some ⟨g, off + o, none⟩)) w := by
  obtain ⟨fs, fd, h1, h2, rfl, h4⟩ := fld_open hf
  obtain ⟨_, i2, _⟩ := run_isAgg h4 w
  simp [Instr.fieldAt, run_underlying h1, h2, Instr.sureAddr, fieldPlace, i2, hsz, Addr.add_mid]

theorem p_fad {s : TypeId} {x : Operand} {f o sz : Nat} {b : Bool} (hl : fld P s f = some (o, b, sz)) (hsz : sz ≠ 0) (hf : Fits σ ρ) (h : on (σ x) fun v => fadK v o K) : ∃ v, PureRun P ⟨dst, .fieldAddr s x f, ty, pos, after, guard⟩ ρ v ∧ K v := by
  obtain ⟨vx, h1, hz⟩ := on_get h; clear h; have h := hz; clear hz
  have hx := hf _ _ h1
  unfold fadK at h
  split at h
  · refine ⟨_, fun F w ρ' hr => ?_, h⟩
    have e1 := hr x (by simp [Op.operands]); rw [hx] at e1
    unfold execOp
    dsimp only
    generalize ρ' x = u at e1
    cases e1 with
    | ptr sz' k i j g tot hr' =>
      refine ⟨_, by rw [Sem.run_bind, run_fieldAt hl hsz]; rfl, ?_⟩
      rw [Nat.add_assoc]
      exact .ptr _ _ _ _ g tot hr'
  · obtain ⟨h2, h⟩ := skipK_get h
    refine ⟨_, fun F w ρ' hr => ?_, h⟩
    have e1 := hr x (by simp [Op.operands]); rw [hx] at e1
    unfold execOp
    dsimp only
    generalize ρ' x = u at e1
    cases e1 with
    | adr _ g off vs t' fr hF hp =>
      refine ⟨_, by rw [Sem.run_bind, run_fieldAt hl hsz]; rfl, .adr _ g _ vs t' fr hF ?_⟩
      have := hp.drop o
      rw [List.drop_drop] at this
      exact this
  · refine ⟨_, fun F w ρ' hr => ?_, h⟩
    have e1 := hr x (by simp [Op.operands]); rw [hx] at e1
    unfold execOp
    dsimp only
    rw [e1.lit]
    exact ⟨_, by rw [Sem.run_bind, run_fieldAt hl hsz]; rfl, .v _⟩
  · exact h.elim

theorem p_nilc {x : Operand} (hf : Fits σ ρ) (h : on (σ x) fun v => nilcK v K) : ∃ v, PureRun P ⟨dst, .nilCheck x, ty, pos, after, guard⟩ ρ v ∧ K v := by
  obtain ⟨vx, h1, hz⟩ := on_get h; clear h; have h := hz; clear hz
  have hx := hf _ _ h1
  unfold nilcK at h
  split at h
  · refine ⟨_, fun F w ρ' hr => ?_, h⟩
    have e1 := hr x (by simp [Op.operands]); rw [hx] at e1
    unfold execOp
    dsimp only
    generalize ρ' x = u at e1
    cases e1 with
    | ptr sz' k i j g tot hr' => exact ⟨_, rfl, .ptr _ _ _ _ g tot hr'⟩
  · refine ⟨_, fun F w ρ' hr => ?_, h⟩
    have e1 := hr x (by simp [Op.operands]); rw [hx] at e1
    unfold execOp
    dsimp only
    generalize ρ' x = u at e1
    cases e1 with
    | adr _ g off vs t' fr hF hp => exact ⟨_, rfl, .adr _ g off vs t' fr hF hp⟩
  · refine ⟨_, fun F w ρ' hr => ?_, h⟩
    have e1 := hr x (by simp [Op.operands]); rw [hx] at e1
    unfold execOp
    dsimp only
    generalize ρ' x = u at e1
    cases e1 with
    | fn _ _ _ a' b' ha hb => exact ⟨_, rfl, .fn _ _ _ _ _ ha hb⟩
  · refine ⟨_, fun F w ρ' hr => ?_, h⟩
    have e1 := hr x (by simp [Op.operands]); rw [hx] at e1
    have e1 := e1.lit
    unfold execOp
    dsimp only
    rw [e1]
    exact ⟨_, rfl, .v _⟩
  · exact h.elim

theorem RepL.map_ops {F : Fro} {ρ' : Operand → Value} : ∀ {xs : List Operand}, (∀ x ∈ xs, Rep F (ρ x) (ρ' x)) → RepL F (xs.map ρ) (xs.map ρ')
  | [], _ => .nil
  | x :: xs, h => .cons _ _ _ _ (h x List.mem_cons_self) (RepL.map_ops fun y hy => h y (List.mem_cons_of_mem _ hy))

theorem p_mkfn {f : Fn} {first cap : Array Operand} (hf : Fits σ ρ) (h : onL σ first.toList fun a => onL σ cap.toList fun b => K (.fn f a b)) : ∃ v, PureRun P ⟨dst, .makeFunc f first cap, ty, pos, after, guard⟩ ρ v ∧ K v := by
  obtain ⟨a, ha, h⟩ := onL_get h
  obtain ⟨b, hb, h⟩ := onL_get h
  refine ⟨_, fun F w ρ' hr => ?_, h⟩
  have h1 : RepL F (first.toList.map ρ) (first.map ρ').toList := by
    have := RepL.map_ops (F := F) (ρ := ρ) (ρ' := ρ') (xs := first.toList) (fun x hx => hr x (by simp [Op.operands]; left; simpa using hx))
    simpa using this
  have h2 : RepL F (cap.toList.map ρ) (cap.map ρ').toList := by
    have := RepL.map_ops (F := F) (ρ := ρ) (ρ' := ρ') (xs := cap.toList) (fun x hx => hr x (by simp [Op.operands]; right; simpa using hx))
    simpa using this
  rw [ha ρ hf] at h1
  rw [hb ρ hf] at h2
  exact ⟨_, by simp only [execOp, Instr.makeFunc, Sem.run_bind, Sem.run_pure, Result.andThen_ok], .fn _ _ _ _ _ h1 h2⟩

theorem p_mkif {x : Operand} {t : TypeId} {d : TypeDesc} (ht : P.underlying t = some d) (hd : ∀ ms, d ≠ .interface ms) (hf : Fits σ ρ) (h : on (σ x) fun v => K (.ifc t v)) : ∃ v, PureRun P ⟨dst, .makeInterface t x, ty, pos, after, guard⟩ ρ v ∧ K v := by
  obtain ⟨vx, h1, hz⟩ := on_get h; clear h; have h := hz; clear hz
  have hx := hf _ _ h1
  refine ⟨_, fun F w ρ' hr => ?_, h⟩
  have e1 := hr x (by simp [Op.operands]); rw [hx] at e1
  refine ⟨.iface t (ρ' x), ?_, .ifc _ _ _ e1⟩
  unfold execOp
  simp only [Instr.makeInterface, Sem.run_bind, run_underlying ht, Result.andThen_ok]
  cases d <;> first | rfl | (exact absurd rfl (hd _))
end
end Go.XW
