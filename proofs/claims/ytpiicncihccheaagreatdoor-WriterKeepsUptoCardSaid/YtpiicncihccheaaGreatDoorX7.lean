/- Structs put together, parts of rows, places of elements; all operations of this kind in one. -/
import Derived.Test.YtpiicncihccheaaGreatDoorX6
set_option linter.unusedVariables false
namespace Go.XW
open Go.RowKit

theorem put_cells : ∀ (vs : List Value) (us : Array Value) (o k : Nat), o + k + vs.length ≤ us.size →
    ((vs.zipIdx k).foldl (fun cs (c, j) => cs.setIfInBounds (o + j) c) us).toList = us.toList.take (o + k) ++ vs ++ us.toList.drop (o + k + vs.length)
  | [], us, o, k, h => by simp
  | v :: r, us, o, k, h => by
    simp only [List.length_cons] at h
    rw [List.zipIdx_cons, List.foldl_cons, put_cells r _ o (k + 1) (by simp; omega)]
    have ho : o + k < us.toList.length := by simp; omega
    simp only [Array.toList_setIfInBounds, List.length_cons]
    rw [show o + (k + 1) = o + k + 1 from rfl, List.take_succ_eq_append_getElem (by simpa using ho), List.getElem_set_self, List.take_set_of_le (Nat.le_refl _), List.drop_set_of_lt (by omega)]
    simp [Nat.add_assoc, Nat.add_comm 1]

theorem RepL.put {F : Fro} {cs ys : List V} {us vs : List Value} (h : RepL F cs us) (k : RepL F ys vs) {o : Nat} : RepL F (put1 cs o ys) (us.take o ++ vs ++ us.drop (o + vs.length)) := by
  rw [put1, ← k.length]
  exact ((h.take o).append k).append (h.drop _)

/-- Parts, laid over cells. -/
theorem fill_real {F : Fro} {σ : Operand → Option V} {ρ : Operand → V} {ρ' : Operand → Value} (hf : Fits σ ρ) {place : Nat → Option (Nat × Nat)} : ∀ {ps : List (Nat × Operand)} {qs : List (Nat × Nat × Bool × Operand)} {cs : List V} {us : Array Value} {K : List V → Prop},
    qs.length = ps.length → (∀ (k i : Nat) (x : Operand), ps[k]? = some (i, x) → ∃ o sz b, qs[k]? = some (o, sz, b, x) ∧ place i = some (o, sz) ∧ (b = true ∨ sz = 1)) →
    RepL F cs us.toList → (∀ p ∈ ps, Rep F (ρ p.2) (ρ' p.2)) → buildK σ qs cs K → ∃ us' cs', Instr.fill place us (ps.map fun p => (p.1, ρ' p.2)) = some us' ∧ RepL F cs' us'.toList ∧ K cs' := by
  intro ps
  induction ps with
  | nil =>
    intro qs cs us K hl hp hr hrep hk
    have : qs = [] := List.length_eq_zero_iff.1 (by simpa using hl)
    subst this
    exact ⟨us, cs, rfl, hr, hk⟩
  | cons p rest ih =>
    intro qs cs us K hl hp hr hrep hk
    obtain ⟨i, x⟩ := p
    cases qs with
    | nil => simp at hl
    | cons q qs =>
      obtain ⟨o, sz, b, h1, h2, h3⟩ := hp 0 i x (by simp)
      simp at h1
      subst h1
      obtain ⟨v, hv, hk2⟩ := on_get hk
      have hrx := hrep (i, x) List.mem_cons_self
      rw [hf _ _ hv] at hrx
      dsimp only at hrx
      have hp' : ∀ (k i : Nat) (y : Operand), rest[k]? = some (i, y) → ∃ o sz b, qs[k]? = some (o, sz, b, y) ∧ place i = some (o, sz) ∧ (b = true ∨ sz = 1) := fun k i y hy => by
        simpa using hp (k + 1) i y (by simpa using hy)
      have hrep' : ∀ p ∈ rest, Rep F (ρ p.2) (ρ' p.2) := fun p hp => hrep p (List.mem_cons_of_mem _ hp)
      obtain ⟨hs, hsz, hk3⟩ := cellsK_get hk2
      obtain ⟨hle, hk4⟩ := setK_get hk3
      have hsz : v.cells.length = sz := by
        rw [hsz]
        rcases h3 with rfl | rfl
        · rfl
        · simp
      have hcells := hrx.cells hs
      have hcl := hcells.length
      have hlen := hr.length
      have hus : (ρ' x).cells.size = sz := by rw [← hsz, hcl]; simp
      have hno : ¬ ((ρ' x).cells.size ≠ sz ∨ o + (ρ' x).cells.size > us.size) := by
        simp at hlen
        simp [hus]; omega
      have hput : (((ρ' x).cells.zipIdx.foldl (fun cs (c, j) => cs.setIfInBounds (o + j) c) us)).toList = us.toList.take o ++ (ρ' x).cells.toList ++ us.toList.drop (o + (ρ' x).cells.toList.length) := by
        have := put_cells (ρ' x).cells.toList us o 0 (by simp at hlen ⊢; omega)
        rw [← Array.foldl_toList]
        simpa using this
      have hrp := hr.put hcells (o := o)
      rw [← hput] at hrp
      obtain ⟨us', cs', f1, f2, f3⟩ := ih (by simpa using hl) hp' hrp hrep' hk4
      refine ⟨us', cs', ?_, f2, f3⟩
      rw [List.map_cons]
      unfold Instr.fill
      dsimp only
      rw [h2]
      simp only [Bool.or_eq_true, decide_eq_true_eq, if_neg hno]
      exact f1

theorem run_zero {P : Program} {t : TypeId} {zs : List Value} (h : zero? P t = some zs) (w : World) : ∃ z, (zeroValue t).run P w = .ok z w ∧ z.cells.toList = zs := by
  unfold zero? at h
  cases hi : P.info? t with
  | none => rw [hi] at h; simp at h
  | some i =>
    rw [hi] at h
    cases hz : i.zero with
    | none => simp [hz] at h
    | some z =>
      simp [hz] at h
      exact ⟨z, by simp [zeroValue, typeInfo, hi, hz], h⟩

theorem mapM_places (P : Program) (w : World) : ∀ (fs : List Field), (∀ f ∈ fs, (lay P f.type).isSome = true) → (fs.mapM (fun f => do pure (f.offset, ← sizeOf f.type) : Field → Sem (Nat × Nat))).run P w = .ok (fs.map fun f => (f.offset, ((lay P f.type).map (·.2)).getD 0)) w
  | [], _ => by simp
  | f :: fs, h => by
    have h1 := h f List.mem_cons_self
    obtain ⟨⟨b, sz⟩, hb⟩ := Option.isSome_iff_exists.1 h1
    obtain ⟨_, i2, _⟩ := run_isAgg hb w
    have := mapM_places P w fs fun f hf => h f (List.mem_cons_of_mem _ hf)
    rw [List.mapM_cons]
    simp only [Sem.run_bind, i2, Result.andThen_ok, Sem.run_pure, this]
    simp [hb]

theorem partsOf_get {P : Program} {s : TypeId} : ∀ {ps : List (Nat × Operand)} {qs : List (Nat × Nat × Bool × Operand)}, partsOf P s ps = some qs →
    qs.length = ps.length ∧ ∀ (k i : Nat) (x : Operand), ps[k]? = some (i, x) → ∃ o sz b, qs[k]? = some (o, sz, b, x) ∧ fld P s i = some (o, b, sz) ∧ (b = true ∨ sz = 1)
  | [], qs, h => by simp [partsOf] at h; subst h; exact ⟨rfl, fun k i x hx => by simp at hx⟩
  | (i, x) :: ps, qs, h => by
    unfold partsOf at h
    split at h
    · rename_i o b sz r h1 h2
      split at h
      · rename_i hb
        cases h
        obtain ⟨a1, a2⟩ := partsOf_get h2
        refine ⟨by simp [a1], fun k j y hy => ?_⟩
        cases k with
        | zero => simp at hy; obtain ⟨rfl, rfl⟩ := hy; exact ⟨o, sz, b, by simp, h1, hb⟩
        | succ k => simpa using a2 k j y (by simpa using hy)
      · cases h
    · cases h

section
variable {P : Program} {ρ : Operand → V} {σ : Operand → Option V} {K : V → Prop} {dst : Option Tmp} {ty : TypeId} {pos : String} {after : Array Edge} {guard : Option (Nat × Bool)}

theorem p_build {s : TypeId} {parts : Array (Nat × Operand)} {zs : List Value} {qs : List (Nat × Nat × Bool × Operand)} (hz : zero? P s = some zs) (hok : fieldsOk P s = true) (hq : partsOf P s parts.toList = some qs) (hf : Fits σ ρ) (h : buildK σ qs (zs.map .v) fun cs => K (.agg cs)) :
    ∃ v, PureRun P ⟨dst, .build s parts, ty, pos, after, guard⟩ ρ v ∧ K v := by
  obtain ⟨q1, q2⟩ := partsOf_get hq
  unfold fieldsOk at hok
  split at hok
  · rename_i fs hu
    have hplace : ∀ i, (fs.map fun f => (f.offset, ((lay P f.type).map (·.2)).getD 0))[i]? = (fld P s i).map fun x => (x.1, x.2.2) := by
      intro i
      simp only [Array.getElem?_map, fld, hu]
      cases hf : fs[i]? with
      | none => simp
      | some f =>
        have hm : f ∈ fs.toList := by
          have := Array.mem_of_getElem? hf
          simpa using this
        obtain ⟨⟨b, sz⟩, hb⟩ := Option.isSome_iff_exists.1 (List.all_eq_true.1 hok f hm)
        simp [hb]
    obtain ⟨cs, hK, hre⟩ := buildK_re h
    refine ⟨.agg cs, fun F w ρ' hr => ?_, hK⟩
    obtain ⟨z, z1, z2⟩ := run_zero hz w
    have hz0 : RepL F (zs.map .v) z.cells.toList := by rw [z2]; exact .lits zs
    obtain ⟨us', cs', f1, f2, f3⟩ := fill_real (F := F) (ρ := ρ) (ρ' := ρ') (K := fun c => c = cs) hf (place := fun i => (fld P s i).map fun x => (x.1, x.2.2)) (ps := parts.toList) q1 (fun k i x hx => by
      obtain ⟨o, sz, b, a1, a2, a3⟩ := q2 k i x hx
      exact ⟨o, sz, b, a1, by simp [a2], a3⟩) hz0 (fun p hp => hr p.2 (by simp only [Op.operands]; simpa using ⟨p.1, by simpa using hp⟩)) (hre _ rfl)
    subst f3
    have hpl : (fs.mapM (fun f => do pure (f.offset, ← sizeOf f.type) : Field → Sem (Nat × Nat))).run P w = .ok (fs.map fun f => (f.offset, ((lay P f.type).map (·.2)).getD 0)) w := by
      rw [Array.mapM_eq_mapM_toList]
      rw [Sem.run_map, mapM_places P w fs.toList (fun f hf => List.all_eq_true.1 hok f hf)]
      simp only [Result.andThen_ok]
      congr 1
      apply Array.ext'
      simp
    have hfun : (fun i => (fs.map fun f => (f.offset, ((lay P f.type).map (·.2)).getD 0))[i]?) = fun i => (fld P s i).map fun x => (x.1, x.2.2) := funext hplace
    have hfill : Instr.fill (fun x => (fs.map fun f => (f.offset, ((lay P f.type).map (·.2)).getD 0))[x]?) z.cells (parts.map fun p => (p.1, ρ' p.2)).toList = some us' := by
      rw [hfun]; simpa using f1
    refine ⟨.agg us', ?_, .agg _ _ f2⟩
    have k1 : (Instr.build s (parts.map fun p => (p.1, ρ' p.2))).run P w = .ok (.agg us') w := by
      unfold Instr.build
      rw [Sem.run_bind, z1]
      simp only [Result.andThen_ok]
      rw [Sem.run_bind, run_underlying hu]
      simp only [Result.andThen_ok]
      rw [Sem.run_bind, hpl]
      simp only [Result.andThen_ok]
      rw [hfill]
      simp
    unfold execOp
    dsimp only
    rw [Sem.run_bind, k1]
    rfl
  · cases hok

/-- The bounds of a part. -/
def bnd (x : Option Value) (d : Nat) : Option Nat :=
  match x with
  | none => some d
  | some (.int _ i) => if 0 ≤ i then some i.toNat else none
  | _ => none

theorem run_bounds {w : World} {len cap : Nat} {lo hi mx : Option Value} {i j m : Nat} (hlo : bnd lo 0 = some i) (hhi : bnd hi len = some j) (hmx : bnd mx cap = some m) (hno : mx.isSome = true → hi.isSome = true) (h1 : i ≤ j) (h2 : j ≤ m) (h3 : m ≤ cap) :
    (Instr.sliceBounds true len cap lo hi mx).run P w = .ok (i, j, m) w := by
  have hb : ∀ (v : Value) (d k y : Nat) (code : BoundsCode), bnd (some v) d = some k → k ≤ y → (Instr.sliceBound v y code).run P w = .ok k w := by
    intro v d k y code hv hk
    cases v <;> simp [bnd] at hv
    rename_i kk n
    obtain ⟨h0, rfl⟩ := hv
    have : 0 ≤ n ∧ n ≤ (y : Int) := by omega
    simp [Instr.sliceBound, asIntOf, this]
  have h0 : ∀ (x : Option Value) (k d : Nat), x = none → bnd x d = some k → k = d := by
    intro x k d hx hk; subst hx; simpa [bnd] using hk.symm
  unfold Instr.sliceBounds
  cases mx with
  | none =>
    have := h0 none m cap rfl hmx
    subst this
    cases hi with
    | none =>
      have := h0 none j len rfl hhi
      subst this
      cases lo with
      | none => have := h0 none i 0 rfl hlo; subst this; simp
      | some l => simp [hb l 0 i j _ hlo h1]
    | some hv =>
      cases lo with
      | none => have := h0 none i 0 rfl hlo; subst this; simp [hb hv len j m _ hhi h2]
      | some l => simp [hb hv len j m _ hhi h2, hb l 0 i j _ hlo h1]
  | some mv =>
    cases hi with
    | none => simp at hno
    | some hv =>
      cases lo with
      | none => have := h0 none i 0 rfl hlo; subst this; simp [hb mv cap m cap _ hmx h3, hb hv len j m _ hhi h2]
      | some l => simp [hb mv cap m cap _ hmx h3, hb hv len j m _ hhi h2, hb l 0 i j _ hlo h1]

theorem run_slice_at {w : World} {t e : TypeId} {b : Bool} {sz : Nat} (ht : P.underlying t = some (.slice e)) (he : lay P e = some (b, sz)) {a : Option Addr} {len cap : Nat} {lo hi mx : Option Value} {i j m : Nat} (hlo : bnd lo 0 = some i) (hhi : bnd hi len = some j) (hmx : bnd mx cap = some m) (hno : mx.isSome = true → hi.isSome = true) (h1 : i ≤ j) (h2 : j ≤ m) (h3 : m ≤ cap) :
    (Instr.sliceAt t (.slice a len cap) lo hi mx).run P w = .ok (.slice (if m = i then a else a.map (·.add (i * sz))) (j - i) (m - i)) w := by
  obtain ⟨_, i2, _⟩ := run_isAgg he w
  simp [Instr.sliceAt, run_underlying ht, Instr.slice, run_bounds hlo hhi hmx hno h1 h2 h3, i2]

/-- What a bound's operand comes to at the machine. -/
theorem bndK_real {x : Option Operand} {d : Nat} {K : Nat → Prop} (hf : Fits σ ρ) (h : bndK σ x d K) : ∃ n, K n ∧ (x = none → n = d) ∧ ∀ (F : Fro) (ρ' : Operand → Value) (d' : Nat), (∀ y, x = some y → Rep F (ρ y) (ρ' y)) → (x = none → d' = d) → bnd (x.map ρ') d' = some n := by
  obtain ⟨n, h1, h2⟩ := bndK_get hf h
  refine ⟨n, h1, fun hx => ?_, fun F ρ' d' hr hd => ?_⟩
  · rcases h2 with ⟨_, h2⟩ | ⟨y, k, h2, _⟩
    · exact h2
    · rw [hx] at h2; cases h2
  · rcases h2 with ⟨rfl, rfl⟩ | ⟨y, k, rfl, h2⟩
    · simp [bnd, hd rfl]
    · have := hr y rfl
      rw [h2] at this
      have := this.lit
      simp [bnd, this]

/-- The three bounds of a part. -/
theorem bnds_real {lo hi mx : Option Operand} {n : Nat} {C : Nat → Nat → Prop} {D : Nat → Nat → Prop} (hf : Fits σ ρ)
    (h : bndK σ lo 0 fun i => bndK σ hi n fun j => match mx with
      | none => Sd (i ≤ j ∧ j ≤ n) (D i j)
      | some _ => bif hi.isSome then bndK σ mx 0 fun m => Sd (i ≤ j ∧ j ≤ m ∧ m ≤ n) (D i j) else False) :
    ∃ i j, i ≤ j ∧ j ≤ n ∧ D i j ∧ (mx.isSome = true → hi.isSome = true) ∧ ∀ (F : Fro) (ρ' : Operand → Value) (c : Nat), n ≤ c → (∀ y, lo = some y → Rep F (ρ y) (ρ' y)) → (∀ y, hi = some y → Rep F (ρ y) (ρ' y)) → (∀ y, mx = some y → Rep F (ρ y) (ρ' y)) →
      ∃ m, j ≤ m ∧ m ≤ c ∧ bnd (lo.map ρ') 0 = some i ∧ bnd (hi.map ρ') n = some j ∧ bnd (mx.map ρ') c = some m := by
  obtain ⟨i, h1, _, hi1⟩ := bndK_real hf h
  obtain ⟨j, h2, _, hj1⟩ := bndK_real hf h1
  cases mx with
  | none =>
    obtain ⟨⟨h3, h4⟩, h5⟩ := h2
    exact ⟨i, j, h3, h4, h5, (by simp), fun F ρ' c hc ol oh om => ⟨c, by omega, Nat.le_refl _, hi1 F ρ' 0 ol (fun _ => rfl), hj1 F ρ' n oh (fun _ => rfl), rfl⟩⟩
  | some y =>
    cases h6 : hi.isSome with
    | false => rw [h6] at h2; exact h2.elim
    | true =>
    rw [h6] at h2
    have h2 : bndK σ (some y) 0 fun m => Sd (i ≤ j ∧ j ≤ m ∧ m ≤ n) (D i j) := h2
    obtain ⟨m, h3, _, hm1⟩ := bndK_real hf h2
    obtain ⟨⟨h3, h4, h5⟩, h7⟩ := h3
    exact ⟨i, j, h3, by omega, h7, (fun _ => rfl), fun F ρ' c hc ol oh om => ⟨m, h4, by omega, hi1 F ρ' 0 ol (fun _ => rfl), hj1 F ρ' n oh (fun _ => rfl), hm1 F ρ' c om (fun h => by cases h)⟩⟩

theorem p_slc {x : Operand} {lo hi mx : Option Operand} {t e : TypeId} {b : Bool} {sz : Nat} (ht : P.underlying t = some (.slice e)) (he : lay P e = some (b, sz)) (hf : Fits σ ρ) (h : on (σ x) fun v => slcK σ sz v lo hi mx K) : ∃ v, PureRun P ⟨dst, .slice t x lo hi mx, ty, pos, after, guard⟩ ρ v ∧ K v := by
  obtain ⟨vx, h1, hz⟩ := on_get h; clear h; have h := hz; clear hz
  have hx := hf _ _ h1
  have opl : ∀ F (ρ' : Operand → Value), (∀ y ∈ (Op.slice t x lo hi mx).operands, Rep F (ρ y) (ρ' y)) → (∀ y, lo = some y → Rep F (ρ y) (ρ' y)) ∧ (∀ y, hi = some y → Rep F (ρ y) (ρ' y)) ∧ (∀ y, mx = some y → Rep F (ρ y) (ρ' y)) := fun F ρ' hr =>
    ⟨fun y hy => hr y (by subst hy; simp [Op.operands]), fun y hy => hr y (by subst hy; simp [Op.operands]), fun y hy => hr y (by subst hy; simp [Op.operands])⟩
  unfold slcK at h
  split at h
  · rename_i sz' es
    cases hb : Nat.beq sz sz' with
    | false => rw [hb] at h; exact h.elim
    | true =>
    rw [hb] at h
    have := Nat.eq_of_beq_eq_true hb
    subst this
    obtain ⟨n, hn, h⟩ := h
    obtain ⟨i, j, hij, hjn, ⟨es', hes, hK⟩, hno, hreal⟩ := bnds_real (C := fun _ _ => True) hf h
    subst hes
    refine ⟨_, fun F w ρ' hr => ?_, hK⟩
    obtain ⟨ol, oh, om⟩ := opl F ρ' hr
    have e1 := hr x (by simp [Op.operands]); rw [hx] at e1
    unfold execOp
    dsimp only
    generalize ρ' x = u at e1
    cases e1 with
    | row0 _ a c =>
      have hn0 : n = 0 := by rw [← hn]; rfl
      subst hn0
      have hj : j = 0 := by omega
      have hi' : i = 0 := by omega
      subst hj; subst hi'
      obtain ⟨m, m1, m2, b1, b2, b3⟩ := hreal F ρ' c (Nat.zero_le _) ol oh om
      have hrun := run_slice_at (P := P) (w := w) ht he (a := a) (len := 0) (cap := c) b1 b2 b3 (by simpa using hno) (Nat.le_refl _) m1 m2
      refine ⟨_, by rw [Sem.run_bind, hrun]; rfl, ?_⟩
      simpa using Rep.row0 (F := F) sz _ _
    | row _ _ g off n' c vs t' fr hF hn' hc hrr =>
      have hnn : n' = n := by rw [hn', hn]
      subst hnn
      obtain ⟨m, m1, m2, b1, b2, b3⟩ := hreal F ρ' c hc ol oh om
      have hrun := run_slice_at (P := P) (w := w) ht he (a := some ⟨g, off, none⟩) (len := n') (cap := c) b1 b2 b3 (by simpa using hno) hij m1 m2
      refine ⟨_, by rw [Sem.run_bind, hrun]; rfl, ?_⟩
      by_cases hij2 : i = j
      · subst hij2
        have : (es.take i).drop i = [] := by simp
        rw [this, Nat.sub_self]
        exact .row0 _ _ _
      · have hci : ¬ m = i := by omega
        rw [if_neg hci]
        simp only [Option.map_some, Addr.add_mid]
        refine .row sz _ g _ _ _ vs t' fr hF (by simp; omega) (by omega) ?_
        have h6 := (hrr.take j).drop i
        rw [List.drop_drop] at h6
        exact h6
  · rename_i sz' k off n
    cases hb : Nat.beq sz sz' with
    | false => rw [hb] at h; exact h.elim
    | true =>
    rw [hb] at h
    have := Nat.eq_of_beq_eq_true hb
    subst this
    obtain ⟨i, j, hij, hjn, ⟨p, hp, ⟨q, hq, hK⟩⟩, hno, hreal⟩ := bnds_real (C := fun _ _ => True) (D := fun i j => Nm (off + i) fun p => Nm (j - i) fun q => K (.osl sz k p q)) hf h
    subst hp; subst hq
    refine ⟨_, fun F w ρ' hr => ?_, hK⟩
    obtain ⟨ol, oh, om⟩ := opl F ρ' hr
    have e1 := hr x (by simp [Op.operands]); rw [hx] at e1
    unfold execOp
    dsimp only
    generalize ρ' x = u at e1
    cases e1 with
    | osl0 _ _ _ a =>
      have hj : j = 0 := by omega
      have hi' : i = 0 := by omega
      subst hj; subst hi'
      obtain ⟨m, m1, m2, b1, b2, b3⟩ := hreal F ρ' 0 (Nat.zero_le _) ol oh om
      have hm : m = 0 := by omega
      subst hm
      have hrun := run_slice_at (P := P) (w := w) ht he (a := a) (len := 0) (cap := 0) b1 b2 b3 (by simpa using hno) (Nat.le_refl _) m1 m2
      refine ⟨_, by rw [Sem.run_bind, hrun]; rfl, ?_⟩
      simpa using Rep.osl0 (F := F) sz k _ _
    | osl _ _ _ _ c g tot hr1 hnc htot hc =>
      obtain ⟨m, m1, m2, b1, b2, b3⟩ := hreal F ρ' c hnc ol oh om
      have hrun := run_slice_at (P := P) (w := w) ht he (a := some ⟨g, off * sz, none⟩) (len := n) (cap := c) b1 b2 b3 (by simpa using hno) hij m1 m2
      refine ⟨_, by rw [Sem.run_bind, hrun]; rfl, ?_⟩
      by_cases hci : m = i
      · rw [if_pos hci]
        have : j - i = 0 := by omega
        rw [this, show m - i = 0 by omega]
        exact .osl0 _ _ _ _
      · rw [if_neg hci]
        simp only [Option.map_some, Addr.add_mid]
        rw [← Nat.add_mul]
        refine .osl sz k (off + i) (j - i) (m - i) g tot hr1 (by omega) ?_ (by omega)
        refine Nat.le_trans (Nat.mul_le_mul_right _ ?_) htot
        omega
  · exact h.elim

theorem p_iad {t e : TypeId} {x i : Operand} {sz : Nat} {b : Bool} (ht : P.underlying t = some (.slice e)) (he : lay P e = some (b, sz)) (hf : Fits σ ρ) (h : on (σ x) fun v => on (σ i) fun vi => iadK sz v vi K) : ∃ v, PureRun P ⟨dst, .indexAddr t x i, ty, pos, after, guard⟩ ρ v ∧ K v := by
  obtain ⟨vx, h1, hz⟩ := on_get h; clear h; have h := hz; clear hz
  obtain ⟨vy, h2, hz⟩ := on_get h; clear h; have h := hz; clear hz
  have hx := hf _ _ h1
  have hy := hf _ _ h2
  unfold iadK at h
  split at h
  · rename_i sz' es kk z
    cases hb : Nat.beq sz sz' with
    | false => rw [hb] at h; exact h.elim
    | true =>
    rw [hb] at h
    have := Nat.eq_of_beq_eq_true hb
    subst this
    obtain ⟨n, hn, ⟨ee, h3, h4⟩⟩ := h
    subst hn
    refine ⟨_, fun F w ρ' hr => ?_, h4⟩
    have e1 := hr x (by simp [Op.operands]); rw [hx] at e1
    have e2 := hr i (by simp [Op.operands]); rw [hy] at e2; have e2 := e2.lit
    unfold execOp
    dsimp only
    rw [e2]
    generalize ρ' x = u at e1
    obtain ⟨_, i2, _⟩ := run_isAgg he w
    cases e1 with
    | row0 _ a c => simp at h3
    | row _ _ g off n' c vs t' fr hF hn hc hrr =>
      obtain ⟨hp, _⟩ := hrr.at n ee h3
      have hlt : n < es.length := (List.getElem?_eq_some_iff.1 h3).1
      have hin : (0 : Int) ≤ n ∧ (n : Int) < (n' : Int) := by omega
      refine ⟨.pointer (some ⟨g, off + n * sz, none⟩), ?_, .adr _ g _ vs t' fr hF ?_⟩
      · simp [Instr.indexAt, asIntOf, run_underlying ht, hin, i2, Addr.add_mid]
        omega
      · rw [List.drop_drop] at hp
        exact hp
  · rename_i sz' k off n kk z
    cases hb : Nat.beq sz sz' with
    | false => rw [hb] at h; exact h.elim
    | true =>
    rw [hb] at h
    have := Nat.eq_of_beq_eq_true hb
    subst this
    obtain ⟨m, hm, ⟨hlt, ⟨p, hp, h4⟩⟩⟩ := h
    subst hm; subst hp
    refine ⟨_, fun F w ρ' hr => ?_, h4⟩
    have e1 := hr x (by simp [Op.operands]); rw [hx] at e1
    have e2 := hr i (by simp [Op.operands]); rw [hy] at e2; have e2 := e2.lit
    unfold execOp
    dsimp only
    rw [e2]
    generalize ρ' x = u at e1
    obtain ⟨_, i2, _⟩ := run_isAgg he w
    cases e1 with
    | osl0 _ _ _ a => omega
    | osl _ _ _ _ c g tot hr1 hnc htot hc =>
      have hin : (0 : Int) ≤ m ∧ (m : Int) < (n : Int) := by omega
      have := Rep.ptr (F := F) sz k (off + m) 0 g tot hr1
      refine ⟨.pointer (some ⟨g, (off + m) * sz + 0, none⟩), ?_, this⟩
      simp [Instr.indexAt, asIntOf, run_underlying ht, hin, i2, Addr.add_mid, Nat.add_mul]
      omega
  · exact h.elim

theorem equal_nil {t : TypeId} {d : TypeDesc} {y : Operand} {u c : Value} {F : Fro} {v : V} (ht : P.underlying t = some d) (hy : isNilC d y = true) (hc : y = .const c) (hd : nilD d v = true) (hr : Rep F v u) {K : Bool → Prop} (hk : nilOf v K) : ∃ b, K b ∧ ∀ w, (Op.equal t u c).run P w = .ok b w := by
  have key : ∀ b, (∀ n w, (Op.equalIn (n + 1) t u c).run P w = .ok b w) → ∀ w, (Op.equal t u c).run P w = .ok b w := fun b h w => h 9999 w
  subst hc
  unfold isNilC at hy
  split at hy
  all_goals first | (cases hy; done) | skip
  all_goals (rename_i hcc; cases hcc)
  all_goals unfold nilD at hd
  all_goals (split at hd <;> first | (cases hd; done) | skip)
  all_goals (rename_i hdd; first | (cases hdd; done) | skip)
  all_goals (cases hr)
  all_goals exact ⟨_, hk, key _ fun n w => by simp [Op.equalIn, run_underlying ht]⟩

theorem p_nilq {op : BinOp} {x y : Operand} {t t2 : TypeId} {d : TypeDesc} {neg : Bool} (ht : P.underlying t = some d) (hy : isNilC d y = true) (hop : op = if neg then .neq else .eql) (hfy : ∀ c, ρ (.const c) = constV c) (hf : Fits σ ρ) (h : on (σ x) fun v => nilqK d neg v K) : ∃ v, PureRun P ⟨dst, .binOp op t x y t2, ty, pos, after, guard⟩ ρ v ∧ K v := by
  obtain ⟨vx, h1, hq⟩ := on_get h
  clear h
  have hx := hf _ _ h1
  unfold nilqK at hq
  cases hd : nilD d vx with
  | false => rw [hd] at hq; exact hq.elim
  | true =>
    rw [hd] at hq
    have hq : nilOf vx fun b => K (vbool (negB neg b)) := hq
    obtain ⟨c, hc, hcv, hlit⟩ : ∃ c, y = .const c ∧ constV c = .v c ∧ ∀ v : Value, ((c = .nilFunc ∨ c = .pointer none ∨ c = .nilIface ∨ c = .map none ∨ c = .slice none 0 0)) := by
      unfold isNilC at hy
      split at hy <;> first | exact ⟨_, rfl, rfl, fun _ => by simp⟩ | cases hy
    have hlit := hlit undef
    have hex : ∃ b, K (vbool (negB neg b)) ∧ ∀ F (u : Value), Rep F vx u → ∀ w, (Op.equal t u c).run P w = .ok b w := by
      unfold nilOf at hq
      split at hq
      all_goals first
        | exact hq.elim
        | (refine ⟨_, hq, fun F u hr w => ?_⟩
           obtain ⟨b, hb1, hb2⟩ := equal_nil (K := fun b' => b' = _) ht hy hc hd hr rfl
           rw [hb2 w, hb1])
    obtain ⟨b, hK, hrun⟩ := hex
    subst hc
    refine ⟨_, fun F w ρ' hr => ⟨.bool (negB neg b), ?_, .v _⟩, hK⟩
    have e1 := hr x (by simp [Op.operands]); rw [hx] at e1
    have e2 := hr (.const c) (by simp [Op.operands]); rw [hfy, hcv] at e2; have e2 := e2.lit
    have e4 := hrun F _ e1 w
    have hg : (eqGuard op t x (.const c) (ρ' x) c).run P w = .ok () w := by
      subst hop
      rcases hlit with rfl | rfl | rfl | rfl | rfl <;> cases neg <;> generalize ρ' x = u <;> cases u <;> simp [eqGuard]
    unfold execOp
    dsimp only
    rw [e2, Sem.run_bind, Sem.run_bind, hg]
    have hb : ∀ u, (binOp op t u c) = (do pure (.bool (negB neg (← Op.equal t u c)))) := by
      intro u
      subst hop
      rcases hlit with rfl | rfl | rfl | rfl | rfl <;> cases neg <;> cases u <;> rfl
    rw [hb, Result.andThen_ok, Sem.run_bind, e4]
    rfl

theorem ovP_sound {o : Oper} {p : OP} (hc : compP P o.op = some p) (hfy : ∀ c, ρ (.const c) = constV c) (hf : Fits σ ρ) (h : ovP p σ K) : ∃ v, PureRun P o ρ v ∧ K v := by
  obtain ⟨dst, op, ty, pos, after, guard⟩ := o
  dsimp only at hc
  unfold compP at hc
  split at hc
  · cases hc; exact p_mv (.inl rfl) hf h
  · cases hc; exact p_mv (.inr rfl) hf h
  · cases hc; exact p_pick hf h
  · split at hc
    · cases hc; exact p_bin hf h
    · cases hc; exact p_bin hf h
    · rename_i ht; cases hc; exact p_binb ht hf h
    · rename_i ht
      split at hc
      · rename_i hy
        split at hc
        · cases hc; exact p_nilq (neg := false) ht hy rfl hfy hf h
        · cases hc; exact p_nilq (neg := true) ht hy rfl hfy hf h
        · cases hc
      · cases hc
    · cases hc
  · cases hc; exact p_not hf h
  · cases hc; exact p_neg hf h
  · split at hc
    · rename_i h1 h2; cases hc; exact p_toInt h1 h2 hf h
    · cases hc
  · rename_i args ts
    split at hc
    · rename_i x t h1 h2
      have e1 : args = #[x] := by apply Array.ext'; simpa using h1
      have e2 : ts = #[t] := by apply Array.ext'; simpa using h2
      subst e1; subst e2
      split at hc
      · rename_i ht; cases hc; exact p_lens ht hf h
      · rename_i ht; cases hc; exact p_lenr ht hf h
      · cases hc
    · cases hc
  · rename_i args ts
    split at hc
    · rename_i x y h1
      have e1 : args = #[x, y] := by apply Array.ext'; simpa using h1
      subst e1
      cases hc; exact p_mx (b := true) rfl hf h
    · cases hc
  · rename_i args ts
    split at hc
    · rename_i x y h1
      have e1 : args = #[x, y] := by apply Array.ext'; simpa using h1
      subst e1
      cases hc; exact p_mx (b := false) rfl hf h
    · cases hc
  · split at hc
    · rename_i ht; cases hc; exact p_sidx ht hf h
    · cases hc
  · split at hc
    · rename_i ht
      split at hc
      · rename_i hm
        have hm : _ = none := Option.isNone_iff_eq_none.1 hm
        subst hm
        cases hc; exact p_ssl ht hf h
      · cases hc
    · rename_i ht
      split at hc
      · rename_i he; cases hc; exact p_slc ht he hf h
      · cases hc
    · cases hc
  · cases hc; exact p_ext hf h
  · split at hc
    · rename_i hl; cases hc; exact p_fld hl hf h
    · cases hc
  · split at hc
    · rename_i hl
      split at hc
      · cases hc
      · rename_i hsz; cases hc; exact p_fad hl hsz hf h
    · cases hc
  · cases hc; exact p_nilc hf h
  · cases hc; exact p_mkfn hf h
  · split at hc
    · rename_i hz hq
      split at hc
      · rename_i hok; cases hc; exact p_build hz hok hq hf h
      · cases hc
    · cases hc
  · split at hc
    · cases hc
    · rename_i d hd ht
      cases hc; exact p_mkif ht (fun ms hm => by subst hm; exact hd _ rfl) hf h
    · cases hc
  · split at hc
    · rename_i ht
      split at hc
      · rename_i he; cases hc; exact p_iad ht he hf h
      · cases hc
    · cases hc
  · cases hc
end
end Go.XW
