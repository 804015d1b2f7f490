/- Memory under views: what grows, what is named, what is written; rows of elements. -/
import Derived.Test.YtpiicncihccheaaGreatDoorX2
import Derived.Lib.ConvBytes
import Derived.Laws.MakeOwn
import Derived.Laws.BytesArg
import Derived.Laws.BytesString
namespace Go.XW
open Go.RowKit

def V.cells : V → List V
  | .agg cs => cs
  | x => [x]

def V.one : V → Bool
  | .v x => x.oneCell'
  | .row _ _ => true
  | .adr _ => true
  | .ifc _ _ => true
  | .fn _ _ _ => true
  | .osl _ _ _ _ => true
  | .ptr _ _ _ _ => true
  | .obj _ => true
  | .yld _ => true
  | _ => false

theorem Rep.one {F : Fro} {x : V} {u : Value} (h : Rep F x u) (hx : x.one = true) : u.oneCell' = true := by
  cases h <;> first | exact hx | rfl | (simp [V.one] at hx)

theorem RepL.one {F : Fro} : ∀ {xs : List V} {us : List Value}, RepL F xs us → xs.all V.one = true → ∀ u ∈ us, u.oneCell' = true
  | _, _, .nil, _, u, hu => by cases hu
  | _, _, .cons _ _ _ _ h k, ha, u, hu => by
    simp only [List.all_cons, Bool.and_eq_true] at ha
    rcases List.mem_cons.1 hu with rfl | hu
    · exact h.one ha.1
    · exact k.one ha.2 u hu

/-- Of an aggregate or of one cell: neither 'any' nor a tuple. -/
def V.solid : V → Bool
  | .agg _ => true
  | x => x.one

theorem Rep.cells {F : Fro} {x : V} {u : Value} (h : Rep F x u) (hx : x.solid = true) : RepL F x.cells u.cells.toList := by
  cases h with
  | agg cs us hl => exact hl
  | any => simp [V.solid, V.one] at hx
  | tup => simp [V.solid, V.one] at hx
  | v =>
    have hc : u.cells = #[u] := by
      simp [V.solid, V.one] at hx
      cases u <;> first | rfl | (simp [Value.oneCell'] at hx)
    rw [hc]
    exact .cons _ _ _ _ (.v u) .nil
  | osl0 sz k off a => exact .cons _ _ _ _ (.osl0 sz k off a) .nil
  | osl sz k off n c g tot h1 h2 h3 h4 => exact .cons _ _ _ _ (.osl sz k off n c g tot h1 h2 h3 h4) .nil
  | row0 sz a c => exact .cons _ _ _ _ (.row0 sz a c) .nil
  | row sz es g off n c vs t fr h1 h2 h3 h4 => exact .cons _ _ _ _ (.row sz es g off n c vs t fr h1 h2 h3 h4) .nil
  | ptr sz k i j g tot h1 => exact .cons _ _ _ _ (.ptr sz k i j g tot h1) .nil
  | obj k g tot h1 => exact .cons _ _ _ _ (.obj k g tot h1) .nil
  | yld k g tot h1 => exact .cons _ _ _ _ (.yld k g tot h1) .nil
  | _ => exact .cons _ _ _ _ (by constructor <;> assumption) .nil

/-- Whether a type's values are aggregates, and how many cells they have. -/
def lay (P : Program) (t : TypeId) : Option (Bool × Nat) :=
  match P.underlying t, P.info? t with
  | some (.struct _), some i => some (true, i.size)
  | some (.array _ _), some i => some (true, i.size)
  | some _, some i => some (false, i.size)
  | _, _ => none

theorem run_isAgg {P : Program} {t : TypeId} {b : Bool} {sz : Nat} (h : lay P t = some (b, sz)) (w : World) : (isAgg t).run P w = .ok b w ∧ (sizeOf t).run P w = .ok sz w ∧ ∃ i, P.info? t = some i ∧ i.size = sz := by
  unfold lay at h
  cases hu : P.underlying t with
  | none => rw [hu] at h; simp at h
  | some d =>
    cases hi : P.info? t with
    | none => rw [hu, hi] at h; cases d <;> simp at h
    | some i =>
      rw [hu, hi] at h
      have h1 : (isAgg t).run P w = .ok (match d with | .struct _ => true | .array _ _ => true | _ => false) w := by
        unfold isAgg
        rw [Sem.run_bind, run_underlying hu w]
        cases d <;> simp
      have h2 : (sizeOf t).run P w = .ok i.size w := by simp [sizeOf, typeInfo, hi]
      cases d <;> simp at h <;> obtain ⟨rfl, rfl⟩ := h <;> exact ⟨h1, h2, i, rfl, rfl⟩

/-! ### What grows, what is named -/
theorem Holds.named {F : Fro} {w : World} {k : Nat} {c : HO} (h : Holds F w k c) : ∃ x, F.r k = some x := by
  cases c with
  | blk sz es => rcases h with ⟨h, _⟩ | ⟨g, tot, us, t, fr, h, _⟩ <;> exact ⟨_, h⟩
  | obj o => obtain ⟨g, tot, h, _⟩ := h; exact ⟨_, h⟩
  | lp N f r => obtain ⟨g, tot, tmps, h, _⟩ := h; exact ⟨_, h⟩
  | tab g vs => exact ⟨_, h.1⟩

theorem Holds.mono {F G : Fro} {w : World} {k : Nat} {c : HO} (h : Holds F w k c) (hF : FLe F G) (hf : F.f = G.f) : Holds G w k c := by
  cases c with
  | blk sz es =>
    rcases h with ⟨h, e⟩ | ⟨g, tot, us, t, fr, h1, h2, h3, h4, h5, h6⟩
    · exact .inl ⟨hF.2 _ _ h, e⟩
    · exact .inr ⟨g, tot, us, t, fr, hF.2 _ _ h1, hf ▸ h2, h3, h4, h5, h6.mono hF⟩
  | obj o => obtain ⟨g, tot, h1, h2, h3⟩ := h; exact ⟨g, tot, hF.2 _ _ h1, hf ▸ h2, h3⟩
  | lp N f r => obtain ⟨g, tot, tmps, h1, h2, h3, h4, h5⟩ := h; exact ⟨g, tot, tmps, hF.2 _ _ h1, hf ▸ h2, h3, h4, h5.mono hF⟩
  | tab g vs => obtain ⟨h1, t, fr, h2⟩ := h; exact ⟨hF.2 _ _ h1, t, fr, hF.1 _ _ h2⟩

theorem shape_of_heap {w w' : World} {g : Nat} (h : w'.heap[g]? = w.heap[g]?) : w'.shape? g = w.shape? g := by unfold World.shape?; rw [h]
theorem Sim.grown {base : World} {F : Fro} {h : Hp} {w w' : World} {row : Option Nat} (hs : Sim base F h w) (hg : w.grownBy w' row)
    (hrow : ∀ g, row = some g → base.heap.size ≤ g ∧ F.f g = none ∧ ∀ k tot c, F.r k = some (some (g, tot)) → (k, c) ∉ h)
    (hsh : ∀ g, row = some g → ∀ k tot T, F.r k = some (some (g, tot)) → nameT k = some T → w'.shape? g = w.shape? g) : Sim base F h w' := by
  refine ⟨hs.below.grown hg hs.below.size fun k hk => (hrow k hk).1, ?_, ?_, hs.inj, hs.fresh, hs.nodup, ?_, ?_⟩
  · intro g o hf
    have hh := hs.fro g o hf
    have hlt : g < w.heap.size := (Array.getElem?_eq_some_iff.1 hh).1
    rw [hg.block g hlt fun e => by have := (hrow g e.symm).2.1; rw [hf] at this; cases this]
    exact hh
  · intro k g tot hr
    obtain ⟨h1, h2⟩ := hs.adr k g tot hr
    exact ⟨h1, Nat.lt_of_lt_of_le h2 hg.size⟩
  · intro k c hc
    have h3 := hs.own k c hc
    cases c with
    | blk sz es =>
      rcases h3 with h3 | ⟨g, tot, us, t, fr, a, b⟩
      · exact .inl h3
      · refine .inr ⟨g, tot, us, t, fr, a, b.1, ?_, b.2.2⟩
        rw [hg.block g (hs.adr _ _ _ a).2 fun e => (hrow g e.symm).2.2 k tot _ a hc]
        exact b.2.1
    | obj o =>
      obtain ⟨g, tot, a, b, d⟩ := h3
      refine ⟨g, tot, a, b, ?_⟩
      rw [hg.block g (hs.adr _ _ _ a).2 fun e => (hrow g e.symm).2.2 k tot _ a hc]
      exact d
    | lp N f r =>
      obtain ⟨g, tot, tmps, a, b, d⟩ := h3
      refine ⟨g, tot, tmps, a, b, ?_⟩
      rw [hg.block g (hs.adr _ _ _ a).2 fun e => (hrow g e.symm).2.2 k tot _ a hc]
      exact d
    | tab g vs => exact h3
  · intro k g tot T hr hT
    by_cases hrg : row = some g
    · rw [hsh g hrg k tot T hr hT]; exact hs.typ k g tot T hr hT
    · rw [shape_of_heap (hg.block g (hs.adr _ _ _ hr).2 fun e => hrg e.symm)]
      exact hs.typ k g tot T hr hT

theorem Sim.grown_none {base : World} {F : Fro} {h : Hp} {w w' : World} (hs : Sim base F h w) (hg : w.grownBy w' none) : Sim base F h w' :=
  hs.grown hg (fun g hk => by cases hk) (fun g hk => by cases hk)

theorem Sim.fro_lt {base : World} {F : Fro} {h : Hp} {w : World} (hs : Sim base F h w) {g : Nat} (hg : w.heap.size ≤ g) : F.f g = none := by
  cases hf : F.f g with
  | none => rfl
  | some o =>
    have := (Array.getElem?_eq_some_iff.1 (hs.fro g o hf)).1
    omega

def Fro.name (F : Fro) (k : Nat) (x : Option (Nat × Nat)) : Fro := ⟨F.f, fun j => if j = k then some x else F.r j⟩

theorem Fro.name_le {F : Fro} {k : Nat} {x : Option (Nat × Nat)} (hk : F.r k = none) : FLe F (F.name k x) :=
  ⟨fun _ _ h => h, fun j y h => by
    have : j ≠ k := fun e => by rw [e, hk] at h; cases h
    simpa [Fro.name, this] using h⟩

/-- A new name: of a block of the call's own, or of nothing. -/
theorem Sim.namedK {base : World} {F : Fro} {h : Hp} {w : World} (hs : Sim base F h w) (x : Option (Nat × Nat)) (k : Nat) (hk : F.r k = none) (hx : ∀ g tot, x = some (g, tot) → base.heap.size ≤ g ∧ g < w.heap.size ∧ ∀ k tot, F.r k ≠ some (some (g, tot)))
    (hT : ∀ g tot T, x = some (g, tot) → nameT k = some T → ∃ n, w.shape? g = some (T / 1000, n) ∧ (T % 1000 = 0 ∨ n = T % 1000)) :
    (∀ c, (k, c) ∉ h) ∧ (F.name k x).r k = some x ∧ FLe F (F.name k x) ∧ Sim base (F.name k x) h w := by
  obtain ⟨b, hb⟩ := hs.fresh
  have hle := Fro.name_le (x := x) hk
  refine ⟨fun c hc => ?_, by simp [Fro.name], hle, hs.below, hs.fro, ?_, ?_, ⟨max b (k + 1), fun j hj => ?_⟩, hs.nodup, fun k c hc => (hs.own k c hc).mono hle rfl, ?_⟩
  · obtain ⟨y, hy⟩ := (hs.own _ _ hc).named
    rw [hk] at hy; cases hy
  · intro k g tot hr
    simp only [Fro.name] at hr
    split at hr
    · cases hr; exact ⟨(hx g tot rfl).1, (hx g tot rfl).2.1⟩
    · exact hs.adr k g tot hr
  · intro k k' g t t' h1 h2
    simp only [Fro.name] at h1 h2
    split at h1 <;> split at h2
    · rename_i e1 e2; exact e1.trans e2.symm
    · cases h1; exact absurd h2 ((hx g t rfl).2.2 k' t')
    · cases h2; exact absurd h1 ((hx g t' rfl).2.2 k t)
    · exact hs.inj k k' g t t' h1 h2
  · have : j ≠ k := by omega
    simpa [Fro.name, this] using hb j (by omega)
  · intro j g tot T hr hn
    simp only [Fro.name] at hr
    split at hr
    · rename_i e; subst e; cases hr; exact hT g tot T rfl hn
    · exact hs.typ j g tot T hr hn
theorem Sim.named {base : World} {F : Fro} {h : Hp} {w : World} (hs : Sim base F h w) (x : Option (Nat × Nat)) (hx : ∀ g tot, x = some (g, tot) → base.heap.size ≤ g ∧ g < w.heap.size ∧ ∀ k tot, F.r k ≠ some (some (g, tot))) :
    ∃ k, F.r k = none ∧ (∀ c, (k, c) ∉ h) ∧ (F.name k x).r k = some x ∧ FLe F (F.name k x) ∧ Sim base (F.name k x) h w := by
  obtain ⟨b, hb⟩ := hs.fresh
  have hk : F.r (2 * b) = none := hb _ (by omega)
  exact ⟨2 * b, hk, hs.namedK x (2 * b) hk hx fun g tot T _ hn => by unfold nameT at hn; rw [if_pos (by omega)] at hn; cases hn⟩
/-- A new name that says the block's type. -/
theorem Sim.namedT {base : World} {F : Fro} {h : Hp} {w : World} (hs : Sim base F h w) (g tot : Nat) (T : TypeId) (hx : base.heap.size ≤ g ∧ g < w.heap.size ∧ ∀ k tot, F.r k ≠ some (some (g, tot))) (hT : ∃ n, w.shape? g = some (T / 1000, n) ∧ (T % 1000 = 0 ∨ n = T % 1000)) :
    ∃ k, nameT k = some T ∧ F.r k = none ∧ (∀ c, (k, c) ∉ h) ∧ (F.name k (some (g, tot))).r k = some (some (g, tot)) ∧ FLe F (F.name k (some (g, tot))) ∧ Sim base (F.name k (some (g, tot))) h w := by
  obtain ⟨b, hb⟩ := hs.fresh
  obtain ⟨k, h1, h2⟩ := nameT_ex b T
  have hk : F.r k = none := hb _ h1
  refine ⟨k, h2, hk, hs.namedK _ k hk (fun g' tot' e => by cases e; exact hx) fun g' tot' T' e hn => ?_⟩
  cases e
  rw [h2] at hn
  cases hn
  exact hT

/-- What has a name is the call's own from then on. -/
theorem Sim.mid {base : World} {F : Fro} {h1 h2 : Hp} {w : World} {k : Nat} {c : HO} (hs : Sim base F (h1 ++ h2) w) (hk : ∀ c, (k, c) ∉ h1 ++ h2) (hh : Holds F w k c) : Sim base F (h1 ++ (k, c) :: h2) w := by
  have h0 : Sim base F ((k, c) :: (h1 ++ h2)) w := by
    refine ⟨hs.below, hs.fro, hs.adr, hs.inj, hs.fresh, ?_, ?_, hs.typ⟩
    · simp only [List.map_cons]
      refine List.nodup_cons.2 ⟨?_, hs.nodup⟩
      intro hm
      obtain ⟨⟨k', c'⟩, hm2, he⟩ := List.mem_map.1 hm
      dsimp only at he
      subst he
      exact hk _ hm2
    · intro k' c' hc
      rcases List.mem_cons.1 hc with he | hc
      · cases he; exact hh
      · exact hs.own _ _ hc
  exact h0.perm List.perm_middle

theorem Sim.cons {base : World} {F : Fro} {h : Hp} {w : World} {k : Nat} {c : HO} (hs : Sim base F h w) (hk : ∀ c, (k, c) ∉ h) (hh : Holds F w k c) : Sim base F ((k, c) :: h) w :=
  Sim.mid (h1 := []) hs hk hh

theorem Sim.out {base : World} {F : Fro} {h1 h2 : Hp} {w : World} {k : Nat} {c : HO} (hs : Sim base F (h1 ++ (k, c) :: h2) w) : Sim base F (h1 ++ h2) w ∧ (∀ c, (k, c) ∉ h1 ++ h2) ∧ Holds F w k c := by
  refine ⟨hs.less (List.Sublist.append_left (List.sublist_cons_self _ _) _), ?_, hs.own k c (by simp)⟩
  have h0 := (hs.perm (List.perm_middle (l₁ := h1) (l₂ := h2) (a := (k, c))).symm).nodup
  intro c' hc
  have := (List.nodup_cons.1 h0).1
  exact this (List.mem_map.2 ⟨(k, c'), hc, rfl⟩)

theorem Sim.drew {base : World} {F : Fro} {h : Hp} {w : World} (hs : Sim base F h w) : Sim base F h w.drew :=
  ⟨⟨hs.below.os, hs.below.tape, hs.below.output, hs.below.size, hs.below.block⟩, hs.fro, hs.adr, hs.inj, hs.fresh, hs.nodup, fun g c hc => by
    have := hs.own g c hc
    cases c with
    | blk sz es => exact this
    | obj o => exact this
    | lp N f r => exact this
    | tab g vs => exact this, hs.typ⟩

/-- A new block of the call's own. -/
theorem Sim.alloc {base : World} {F : Fro} {h1 h2 : Hp} {w : World} (hs : Sim base F (h1 ++ h2) w) (us : Array Value) (t : TypeId) {sz : Nat} {es : List (List V)} (hr : RepR F sz es us.toList) :
    ∃ F' k, FLe F F' ∧ F'.r k = some (some (w.heap.size, us.size)) ∧ Sim base F' (h1 ++ (k, .blk sz es) :: h2) (w.alloc (.cells us t)) := by
  have hg : Sim base F (h1 ++ h2) (w.alloc (.cells us t)) := hs.grown_none (World.grownBy_alloc w (.cells us t) none)
  have hf := hs.fro_lt (Nat.le_refl w.heap.size)
  obtain ⟨k, k1, k2, k3, k4, k5⟩ := hg.named (some (w.heap.size, us.size)) (fun g tot he => by
    cases he
    refine ⟨hs.below.size, by simp, fun k tot hr => ?_⟩
    have := (hs.adr _ _ _ hr).2
    omega)
  refine ⟨_, k, k4, k3, k5.mid k2 (.inr ⟨_, _, us, t, (0, 0), k3, hf, heap_alloc_new w _, fun i _ => by omega, rfl, hr.mono k4⟩)⟩

/-- Likewise, its name says the type of its elements. -/
theorem Sim.allocC {base : World} {F : Fro} {h1 h2 : Hp} {w : World} (hs : Sim base F (h1 ++ h2) w) (us : Array Value) (t : TypeId) {sz : Nat} {es : List (List V)} (hr : RepR F sz es us.toList) :
    ∃ F' k, nameT k = some (t * 1000) ∧ FLe F F' ∧ F'.r k = some (some (w.heap.size, us.size)) ∧ Sim base F' (h1 ++ (k, .blk sz es) :: h2) (w.alloc (.cells us t)) := by
  have hg : Sim base F (h1 ++ h2) (w.alloc (.cells us t)) := hs.grown_none (World.grownBy_alloc w (.cells us t) none)
  have hf := hs.fro_lt (Nat.le_refl w.heap.size)
  have key : ∀ a : Nat, a * 1000 / 1000 = a ∧ a * 1000 % 1000 = 0 := fun a => by omega
  obtain ⟨k, k0, k1, k2, k3, k4, k5⟩ := hg.namedT w.heap.size us.size (t * 1000) ⟨hs.below.size, by simp, fun k tot hr => by
      have := (hs.adr _ _ _ hr).2
      omega⟩ ⟨us.size, by unfold World.shape?; rw [heap_alloc_new, (key t).1], .inl (key t).2⟩
  exact ⟨_, k, k0, k4, k3, k5.mid k2 (.inr ⟨_, _, us, t, (0, 0), k3, hf, heap_alloc_new w _, fun i _ => by omega, rfl, hr.mono k4⟩)⟩

/-- A block's cells are written. -/
theorem heap_setCells (b : Nat) : ∀ (vs : List Value) (o : Nat) (w : World) (us : Array Value) (t : TypeId) (fr : Nat × Nat), w.heap[b]? = some (.cells us t fr) → o + vs.length ≤ us.size →
    ∃ us' : Array Value, us'.toList = us.toList.take o ++ vs ++ us.toList.drop (o + vs.length) ∧ (w.setCells b o vs).heap[b]? = some (.cells us' t fr) ∧ (∀ k, k ≠ b → (w.setCells b o vs).heap[k]? = w.heap[k]?) ∧ (w.setCells b o vs).heap.size = w.heap.size ∧ (w.setCells b o vs).os = w.os ∧ (w.setCells b o vs).tape = w.tape ∧ (w.setCells b o vs).output = w.output
  | [], o, w, us, t, fr, h, hl => ⟨us, by simp, by simpa [World.setCells] using h, fun _ _ => rfl, rfl, rfl, rfl, rfl⟩
  | v :: r, o, w, us, t, fr, h, hl => by
    have hb : b < w.heap.size := (Array.getElem?_eq_some_iff.1 h).1
    have h1 : (w.setCell ⟨b, o, none⟩ v).heap[b]? = some (.cells (us.setIfInBounds o v) t fr) := by
      simp [World.setCell, Array.getElem?_modify, h]
    simp only [List.length_cons] at hl
    obtain ⟨us', e1, e2, e3, e4, e5, e6, e7⟩ := heap_setCells b r (o + 1) (w.setCell ⟨b, o, none⟩ v) (us.setIfInBounds o v) t fr h1 (by simp; omega)
    refine ⟨us', ?_, by simpa [World.setCells] using e2, ?_, by simpa [World.setCells, World.setCell] using e4, by simpa [World.setCells, World.setCell] using e5, by simpa [World.setCells, World.setCell] using e6, by simpa [World.setCells, World.setCell] using e7⟩
    · rw [e1]
      have ho : o < us.toList.length := by simp; omega
      simp only [Array.toList_setIfInBounds, List.length_cons]
      rw [List.take_succ_eq_append_getElem (by simpa using ho)]
      rw [List.getElem_set_self, List.take_set_of_le (Nat.le_refl o)]
      rw [List.drop_set_of_lt (by omega)]
      simp [Nat.add_assoc, Nat.add_comm 1]
    · intro k hk
      rw [World.setCells, e3 k hk]
      simp only [World.setCell]
      rw [Array.getElem?_modify]
      simp [Ne.symm hk]

def put1 (cs : List V) (o : Nat) (ys : List V) : List V := cs.take o ++ ys ++ cs.drop (o + ys.length)
theorem put1_length (cs : List V) (o : Nat) (ys : List V) (h : o + ys.length ≤ cs.length) : (put1 cs o ys).length = cs.length := by
  simp [put1]; omega

theorem RepP.take_le {F : Fro} {xs : List V} {us : List Value} (h : RepP F xs us) {n : Nat} (hn : n ≤ xs.length) : RepL F (xs.take n) (us.take n) := by
  have := (h.take n).toL.2
  rwa [List.length_take, Nat.min_eq_left hn] at this

theorem RepP.front {F : Fro} {xs : List V} {us vs : List Value} (h : RepP F xs us) (he : vs.take xs.length = us.take xs.length) : RepP F xs vs := by
  have h1 := h.toL.2
  rw [← he] at h1
  have := RepP.appendP (ys := []) h1 (RepP.nil (vs.drop xs.length))
  simpa using this

/-! ### Rows of elements -/
theorem RepR.at {F : Fro} : ∀ {sz : Nat} {es : List (List V)} {us : List Value}, RepR F sz es us → ∀ i e, es[i]? = some e → RepP F e (us.drop (i * sz)) ∧ e.length = sz
  | _, _, _, .nil _ _, i, e, h => by simp at h
  | _, _, _, .cons sz e es us h1 h2 h3, 0, e', h => by simp at h; subst h; simpa using ⟨h2, h1⟩
  | _, _, _, .cons sz e es us h1 h2 h3, i + 1, e', h => by
    have := h3.at i e' (by simpa using h)
    rw [List.drop_drop] at this
    refine ⟨?_, this.2⟩
    rw [show (i + 1) * sz = sz + i * sz by rw [Nat.succ_mul, Nat.add_comm]]
    exact this.1

theorem RepR.of {F : Fro} {sz : Nat} : ∀ {es : List (List V)} {us : List Value}, (∀ i e, es[i]? = some e → RepP F e (us.drop (i * sz)) ∧ e.length = sz) → RepR F sz es us
  | [], us, _ => .nil sz us
  | e :: es, us, h => by
    have h0 := h 0 e (by simp)
    refine .cons sz e es us h0.2 (by simpa using h0.1) (RepR.of fun i e' hi => ?_)
    have := h (i + 1) e' (by simpa using hi)
    rw [List.drop_drop]
    rw [show (i + 1) * sz = sz + i * sz by rw [Nat.succ_mul, Nat.add_comm]] at this
    exact this

theorem RepR.len {F : Fro} {sz : Nat} {es : List (List V)} {us : List Value} (h : RepR F sz es us) : es.length * sz ≤ us.length := by
  cases hl : es.length with
  | zero => simp
  | succ n =>
    have hn : n < es.length := by omega
    obtain ⟨h1, h2⟩ := h.at n es[n] (List.getElem?_eq_getElem hn)
    have h3 := h1.len
    rw [h2] at h3
    simp at h3
    rw [Nat.succ_mul]
    by_cases hz : sz = 0
    · subst hz; simp
    · omega

theorem RepR.drop {F : Fro} {sz : Nat} {es : List (List V)} {us : List Value} (h : RepR F sz es us) (i : Nat) : RepR F sz (es.drop i) (us.drop (i * sz)) :=
  RepR.of fun j e he => by
    rw [List.getElem?_drop] at he
    have := h.at (i + j) e he
    rw [Nat.add_mul] at this
    rw [List.drop_drop]
    exact this

theorem RepR.take {F : Fro} {sz : Nat} {es : List (List V)} {us : List Value} (h : RepR F sz es us) (i : Nat) : RepR F sz (es.take i) us :=
  RepR.of fun j e he => by
    refine h.at j e ?_
    rw [List.getElem?_take] at he
    split at he
    · exact he
    · cases he

/-- Element i's cells from j on are written. -/
theorem RepR.set {F : Fro} {sz : Nat} {es : List (List V)} {us : List Value} (h : RepR F sz es us) {i j : Nat} {e ys : List V} {vs : List Value} (hr : RepL F ys vs) (he : es[i]? = some e) (hj : j + ys.length ≤ sz) :
    RepR F sz (es.set i (put1 e j ys)) (us.take (i * sz + j) ++ vs ++ us.drop (i * sz + j + vs.length)) := by
  have hlen := h.len
  have hyl := hr.length
  have hi : i < es.length := (List.getElem?_eq_some_iff.1 he).1
  have hib : i * sz + sz ≤ us.length := by
    have : (i + 1) * sz ≤ es.length * sz := Nat.mul_le_mul_right _ hi
    rw [Nat.succ_mul] at this; omega
  have htl : (us.take (i * sz + j)).length = i * sz + j := by simp; omega
  obtain ⟨a1, a2⟩ := h.at i e he
  refine RepR.of fun p q hq => ?_
  by_cases hpi : p = i
  · subst hpi
    rw [List.getElem?_set_self hi] at hq
    cases hq
    refine ⟨?_, by rw [put1_length _ _ _ (by omega), a2]⟩
    rw [List.append_assoc, List.drop_append_of_le_length (by rw [htl]; omega)]
    have e1 : (us.take (p * sz + j)).drop (p * sz) = (us.drop (p * sz)).take j := by rw [List.drop_take]; congr 1; omega
    rw [e1, put1, List.append_assoc]
    refine RepP.appendP (a1.take_le (by omega)) (RepP.appendP hr ?_)
    have := a1.drop (j + ys.length)
    rw [List.drop_drop] at this
    rw [← hyl, show p * sz + j + ys.length = p * sz + (j + ys.length) by omega]
    exact this
  · rw [List.getElem?_set_ne (fun e => hpi e.symm)] at hq
    obtain ⟨b1, b2⟩ := h.at p q hq
    refine ⟨b1.front ?_, b2⟩
    rw [b2]
    rcases Nat.lt_or_gt_of_ne hpi with hlt | hlt
    · have : (p + 1) * sz ≤ i * sz := Nat.mul_le_mul_right _ hlt
      rw [Nat.succ_mul] at this
      rw [List.append_assoc, List.drop_append_of_le_length (by rw [htl]; omega), List.take_append_of_le_length (by rw [List.length_drop, htl]; omega)]
      rw [List.drop_take, List.take_take, Nat.min_eq_left (by omega)]
    · have : (i + 1) * sz ≤ p * sz := Nat.mul_le_mul_right _ hlt
      rw [Nat.succ_mul] at this
      have e2 : (us.take (i * sz + j) ++ vs).length = i * sz + j + vs.length := by rw [List.length_append, htl]
      rw [List.drop_append, e2, List.drop_eq_nil_of_le (by rw [e2]; omega), List.nil_append, List.drop_drop]
      rw [show i * sz + j + vs.length + (p * sz - (i * sz + j + vs.length)) = p * sz by omega]

theorem RepR.append {F : Fro} {sz : Nat} {es es2 : List (List V)} {us vs : List Value} (h : RepR F sz es us) (h2 : RepR F sz es2 vs) (hl : us.length = es.length * sz) : RepR F sz (es ++ es2) (us ++ vs) :=
  RepR.of fun i e he => by
    by_cases hi : i < es.length
    · rw [List.getElem?_append_left hi] at he
      obtain ⟨a1, a2⟩ := h.at i e he
      refine ⟨?_, a2⟩
      have : (i + 1) * sz ≤ es.length * sz := Nat.mul_le_mul_right _ hi
      rw [Nat.succ_mul] at this
      rw [List.drop_append_of_le_length (by omega)]
      refine a1.front ?_
      rw [a2, List.take_append_of_le_length (by rw [List.length_drop]; omega)]
    · rw [List.getElem?_append_right (by omega)] at he
      obtain ⟨a1, a2⟩ := h2.at _ e he
      refine ⟨?_, a2⟩
      have : es.length * sz ≤ i * sz := Nat.mul_le_mul_right _ (by omega)
      rw [List.drop_append, List.drop_eq_nil_of_le (by omega), List.nil_append, hl, ← Nat.sub_mul]
      exact a1

theorem RepR.front {F : Fro} {sz : Nat} {es : List (List V)} {us vs : List Value} (h : RepR F sz es us) (he : vs.take (es.length * sz) = us.take (es.length * sz)) : RepR F sz es vs :=
  RepR.of fun i e hi => by
    obtain ⟨a1, a2⟩ := h.at i e hi
    have hlt : i < es.length := (List.getElem?_eq_some_iff.1 hi).1
    have : (i + 1) * sz ≤ es.length * sz := Nat.mul_le_mul_right _ hlt
    rw [Nat.succ_mul] at this
    refine ⟨a1.front ?_, a2⟩
    have h3 := congrArg (fun l => (l.drop (i * sz)).take e.length) he
    simp only [List.drop_take, List.take_take] at h3
    rw [Nat.min_eq_left (by omega)] at h3
    exact h3

theorem RepR.cells {F : Fro} {sz : Nat} : ∀ {es : List (List V)} {us : List Value}, RepR F sz es us → RepL F es.flatten (us.take (es.length * sz))
  | [], us, _ => by simpa using RepL.nil
  | e :: es, us, h => by
    cases h with
    | cons _ _ _ _ h1 h2 h3 =>
      have a := RepR.cells h3
      have d2 := h2.toL.2
      rw [h1] at d2
      have hlen : (e :: es).length * sz = sz + es.length * sz := by simp [Nat.succ_mul, Nat.add_comm]
      rw [hlen, List.take_add]
      simpa using d2.append a

theorem RepR.one {F : Fro} {sz : Nat} {es : List (List V)} {us : List Value} (h : RepR F sz es us) (ha : ∀ e ∈ es, e.all V.one = true) : ∀ u ∈ us.take (es.length * sz), u.oneCell' = true := by
  refine h.cells.one ?_
  rw [List.all_eq_true]
  intro x hx
  obtain ⟨e, he, hx⟩ := List.mem_flatten.1 hx
  exact List.all_eq_true.1 (ha e he) x hx

theorem RepR.ofL {F : Fro} {sz : Nat} : ∀ {es : List (List V)} {us : List Value}, (∀ e ∈ es, e.length = sz) → RepL F es.flatten us → RepR F sz es us
  | [], us, _, _ => .nil sz us
  | e :: es, us, ha, h => by
    have hl := ha e List.mem_cons_self
    simp only [List.flatten_cons] at h
    refine .cons sz e es us hl ?_ (RepR.ofL (fun e he => ha e (List.mem_cons_of_mem _ he)) ?_)
    · have := (h.take e.length).toP
      rw [List.take_left] at this
      refine this.front ?_
      simp [List.take_take]
    · have := h.drop e.length
      rw [List.drop_left, hl] at this
      exact this

/-- An own block is written. -/
theorem Sim.put {base : World} {F : Fro} {h1 h2 : Hp} {w : World} {k sz i j : Nat} {es : List (List V)} {e ys : List V} {vs : List Value} (hs : Sim base F (h1 ++ (k, .blk sz es) :: h2) w) (hr : RepL F ys vs) (he : es[i]? = some e) (hj : j + ys.length ≤ sz) {g tot : Nat} (hg : F.r k = some (some (g, tot))) :
    Sim base F (h1 ++ (k, .blk sz (es.set i (put1 e j ys))) :: h2) (w.setCells g (i * sz + j) vs) := by
  obtain ⟨s1, s2, s3⟩ := hs.out
  rcases s3 with ⟨_, s3⟩ | ⟨g', tot', us, t, fr, a, b, c, d, z, y⟩
  · subst s3; simp at he
  · rw [hg] at a
    cases a
    have hi : i < es.length := (List.getElem?_eq_some_iff.1 he).1
    have hlen := y.len
    have hib : i * sz + sz ≤ us.toList.length := by
      have : (i + 1) * sz ≤ es.length * sz := Nat.mul_le_mul_right _ hi
      rw [Nat.succ_mul] at this; omega
    have hyl := hr.length
    obtain ⟨us', e1, e2, e3, e4, e5, e6, e7⟩ := heap_setCells g vs (i * sz + j) w us t fr c (by simp at hib; omega)
    have hgr : w.grownBy (w.setCells g (i * sz + j) vs) (some g) := ⟨e5, e6, e7, by rw [e4]; exact Nat.le_refl _, fun k hk hne => e3 k fun he => hne (by rw [he])⟩
    have hsz : us'.size = us.size := by
      have : us'.toList.length = us.toList.length := by
        rw [e1]; simp; simp at hib; omega
      simpa using this
    have s4 := s1.grown hgr (fun g2 he2 => by
      cases he2
      refine ⟨(s1.adr _ _ _ hg).1, b, fun k' tot' c' hr' hm => ?_⟩
      have := s1.inj _ _ _ _ _ hg hr'
      subst this
      exact s2 _ hm) (fun g2 he2 => by
      cases he2
      intro _ _ _ _ _
      unfold World.shape?
      rw [e2, c]
      simp only [hsz])
    refine s4.mid s2 (.inr ⟨g, tot, us', t, fr, hg, b, e2, ?_, by rw [hsz]; exact z, ?_⟩)
    · intro p hp; rw [hsz] at hp; exact d p hp
    · rw [e1]; exact y.set hr he hj

/-! ### Finding a block -/
/-- Block k is among those of the call's own; what holds of its elements. -/
inductive Has (k sz : Nat) (K : List (List V) → Prop) : Hp → Prop
  | here (es : List (List V)) (h : Hp) : K es → Has k sz K ((k, .blk sz es) :: h)
  | there (x : Nat × HO) (h : Hp) : Has k sz K h → Has k sz K (x :: h)

theorem Has.open {k sz : Nat} {K : List (List V) → Prop} {h : Hp} (hh : Has k sz K h) : ∃ h1 es h2, h = h1 ++ (k, .blk sz es) :: h2 ∧ K es := by
  induction hh with
  | here es h hk => exact ⟨[], es, h, rfl, hk⟩
  | there x h _ ih => obtain ⟨h1, es, h2, rfl, hk⟩ := ih; exact ⟨x :: h1, es, h2, rfl, hk⟩

/-- Likewise, with what stands about it. -/
inductive Upd (k sz : Nat) : (List (List V) → (Nat × HO → Hp) → Prop) → Hp → Prop
  | here (K : List (List V) → (Nat × HO → Hp) → Prop) (es : List (List V)) (h : Hp) : K es (fun x => x :: h) → Upd k sz K ((k, .blk sz es) :: h)
  | there (K : List (List V) → (Nat × HO → Hp) → Prop) (x : Nat × HO) (h : Hp) : Upd k sz (fun es c => K es (fun y => x :: c y)) h → Upd k sz K (x :: h)

theorem Upd.open {k sz : Nat} {K : List (List V) → (Nat × HO → Hp) → Prop} {h : Hp} (hh : Upd k sz K h) : ∃ h1 es h2, h = h1 ++ (k, .blk sz es) :: h2 ∧ K es (fun x => h1 ++ x :: h2) := by
  induction hh with
  | here K es h hk => exact ⟨[], es, h, rfl, hk⟩
  | there K x h _ ih => obtain ⟨h1, es, h2, rfl, hk⟩ := ih; exact ⟨x :: h1, es, h2, rfl, hk⟩

end Go.XW
