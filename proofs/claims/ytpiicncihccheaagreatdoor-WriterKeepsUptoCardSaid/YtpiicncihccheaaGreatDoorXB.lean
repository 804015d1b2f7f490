/- Appends, shown against the machine; all operations that change blocks, in one. -/
import Derived.Test.YtpiicncihccheaaGreatDoorXA
namespace Go.XW
open Go.RowKit

/-- What is appended: so many elements, these cells. -/
structure Source (P : Program) (sz : Nat) (t : TypeId) (x : Value) (m : Nat) (news : List Value) (w : World) : Prop where
  type : (∃ e, P.underlying t = some (.slice e)) ∨ P.underlying t = some .string
  len : ∀ w', (Builtin.lenOf x).run P w' = .ok m w'
  cells : ∀ w', w'.heap = w.heap → (Builtin.firstCells sz m x).run P w' = .ok news.toArray w'
  count : news.length = m * sz

theorem run_append_at {P : Program} {t t2 e : TypeId} {b : Bool} {sz by' : Nat} {w : World} (ty : TypeId) (ht : P.underlying t = some (.slice e)) (he : lay P e = some (b, sz)) {zs : List Value} (hz : zero? P e = some zs) (hzl : zs.length = sz) (hb : (P.info? e).map (·.bytes) = some by') (hb0 : 0 < by')
    {x : Value} {m : Nat} {news : List Value} (hx : Source P sz t2 x m news w) (h1 : ∀ u ∈ news, u.oneCell' = true)
    {base : Option Addr} {n cap : Nat} {olds : List Value} (hbase : (n = 0 ∧ cap = 0 ∧ olds = []) ∨ ∃ g us t' fr, base = some ⟨g, 0, none⟩ ∧ w.heap[g]? = some (.cells us t' fr) ∧ NoFr us fr ∧ cap * sz ≤ us.size ∧ olds = us.toList.take (n * sz) ∧ n ≤ cap ∧ cap ≤ 9223372036854775807)
    (hroom : (n + m) * by' ≤ 140737488355328) :
    (n + m ≤ cap ∧ ((n + m = 0 ∧ cap = 0 ∧ ∃ a, (Builtin.append_ #[t, t2] ty #[.slice base n cap, x]).run P w = .ok (.slice a 0 0) w) ∨ ∃ g us t' fr, base = some ⟨g, 0, none⟩ ∧ w.heap[g]? = some (.cells us t' fr) ∧ (Builtin.append_ #[t, t2] ty #[.slice base n cap, x]).run P w = .ok (.slice base (n + m) cap) (w.setCells g (n * sz) news))) ∨
    (cap < n + m ∧ ∃ c us', n + m ≤ c ∧ c ≤ 9223372036854775807 ∧ us'.toList.take ((n + m) * sz) = olds ++ news ∧ us'.size = c * sz ∧ (Builtin.append_ #[t, t2] ty #[.slice base n cap, x]).run P w = .ok (.slice (some ⟨w.heap.size, 0, none⟩) (n + m) c) (w.drew.alloc (.cells us' e))) := by
  obtain ⟨_, _, i, i3, i4⟩ := run_isAgg he w
  have i2 : ∀ w', (sizeOf e).run P w' = .ok sz w' := fun w' => (run_isAgg he w').2.1
  have hbi : i.bytes = by' := by rw [i3] at hb; simpa using hb
  have hzr : ∀ w', ∃ z, (zeroValue e).run P w' = .ok z w' ∧ z.cells.toList = zs := fun w' => run_zero hz w'
  have hzero : ∃ z : Value, ∀ w', (zeroValue e).run P w' = .ok z w' := by
    obtain ⟨z, h1, _⟩ := hzr w
    unfold zero? at hz
    rw [i3] at hz
    cases hzo : i.zero with
    | none => simp [hzo] at hz
    | some z' => exact ⟨z', fun w' => by simp [zeroValue, typeInfo, i3, hzo]⟩
  obtain ⟨z, hzv⟩ := hzero
  have hzc : z.cells.size = sz := by
    obtain ⟨z', h1, h2⟩ := hzr w
    rw [hzv w] at h1
    cases h1
    rw [← Array.length_toList, h2, hzl]
  have hty : ∃ d, P.underlying t2 = some d ∧ ∀ k, d ≠ .int k := by
    rcases hx.type with ⟨e2, h2⟩ | h2
    · exact ⟨_, h2, by simp⟩
    · exact ⟨_, h2, by simp⟩
  obtain ⟨d2, hd2, hd3⟩ := hty
  have hsmall : n + m ≤ 9223372036854775807 := by
    have : (n + m) * 1 ≤ (n + m) * by' := Nat.mul_le_mul_left _ hb0
    omega
  by_cases hfit : n + m ≤ cap
  · refine .inl ⟨hfit, ?_⟩
    have hnew := hx.cells w rfl
    rcases hbase with ⟨rfl, rfl, rfl⟩ | ⟨g, us, t', fr, rfl, hg, hnf, hsz, rfl, hnc, hcm⟩
    · have hm : m = 0 := by omega
      subst hm
      have hn0 : news = [] := List.length_eq_zero_iff.1 (by simpa using hx.count)
      subst hn0
      refine .inl ⟨by omega, rfl, base, ?_⟩
      cases base with
      | none => simp [Builtin.append_, run_underlying ht, run_underlying hd2, i2, hx.len, hnew]
      | some a => simp [Builtin.append_, run_underlying ht, run_underlying hd2, i2, hx.len, hnew, storeCells]
    · refine .inr ⟨g, us, t', fr, rfl, hg, ?_⟩
      have hst := run_storeCells_own (P := P) g news (0 + n * sz) 0 w us t' fr hg hnf (by
        have : (n + m) * sz ≤ cap * sz := Nat.mul_le_mul_right _ hfit
        rw [Nat.add_mul] at this
        rw [hx.count]; omega) h1
      simp only [Nat.add_zero, Nat.zero_add] at hst
      simp [Builtin.append_, run_underlying ht, run_underlying hd2, i2, hx.len, hnew, hfit, Addr.add_mid, hst]
  · refine .inr ⟨by omega, ?_⟩
    have hlt : cap < n + m := by omega
    have hg := growslice_fits hlt hroom
    have h48 : ¬ (281474976710656 < Builtin.nextslicecap (n + m) cap * i.bytes) := by rw [hbi]; omega
    have h63 : ¬ (9223372036854775807 < ((n : Int) + (m : Int))) := by omega
    have hby0 : ¬ i.bytes = 0 := by omega
    let c := grownCap w (n + m) cap e
    have hc1 : n + m ≤ c := by
      show n + m ≤ grownCap w (n + m) cap e
      unfold grownCap Question.cut
      exact Nat.le_add_right _ _
    have hc2 : c ≤ 9223372036854775807 := by
      show grownCap w (n + m) cap e ≤ _
      unfold grownCap Question.cut
      dsimp only
      have := Nat.mod_lt (w.tape w.drawn (.appendCap (n + m) cap e)) (show 0 < 2 ^ 63 - (n + m) by omega)
      omega
    have hold : (Builtin.firstCells sz n (.slice base n cap)).run P w.drew = .ok olds.toArray w.drew := by
      rcases hbase with ⟨rfl, rfl, rfl⟩ | ⟨g, us, t', fr, rfl, hg2, hnf, hsz, rfl, hnc, hcm⟩
      · cases base with
        | none => simp [Builtin.firstCells]
        | some a => simp [Builtin.firstCells, loadCells, loadCellsFrom]
      · refine run_firstCells_some w.drew sz n ⟨g, 0, none⟩ n cap _ (by
          have : n * sz ≤ cap * sz := Nat.mul_le_mul_right _ hnc
          simp; omega) (fun j v hv => ?_)
        rw [Addr.add_mid, Nat.zero_add]
        have hg3 : w.drew.heap[g]? = some (.cells us t' fr) := hg2
        rw [cell_of_heap hg3]
        have hj : j < n * sz := by
          have := (List.getElem?_eq_some_iff.1 hv).1
          simp at this; omega
        rw [List.getElem?_take_of_lt hj] at hv
        simpa using hv
    have hnew := hx.cells w.drew rfl
    have hlo : olds.length = n * sz := by
      rcases hbase with ⟨rfl, rfl, rfl⟩ | ⟨g, us, t', fr, rfl, hg2, hnf, hsz, rfl, hnc, hcm⟩
      · simp
      · have : n * sz ≤ cap * sz := Nat.mul_le_mul_right _ hnc
        simp; omega
    refine ⟨c, olds.toArray ++ news.toArray ++ Builtin.zeroCells z.cells (c - (n + m)), hc1, hc2, ?_, ?_, ?_⟩
    · simp only [Array.toList_append]
      rw [List.take_append_of_le_length (by simp [hlo, hx.count, Nat.add_mul])]
      rw [List.take_of_length_le (by simp [hlo, hx.count, Nat.add_mul])]
    · have : (Builtin.zeroCells z.cells (c - (n + m))).size = (c - (n + m)) * sz := by simp [Builtin.zeroCells, hzc]
      simp only [Array.size_append, this, List.size_toArray, hlo, hx.count]
      rw [← Nat.add_mul, ← Nat.add_mul]
      congr 1; omega
    · have hq : (Question.appendCap (n + m) cap e).forced = false := rfl
      simp [Builtin.append_, run_underlying ht, run_underlying hd2, i2, hx.len, hfit, typeInfo, i3, h63, h48, hby0, hq, hold, hnew, hzv, newRow]
      refine ⟨rfl, ?_⟩
      congr 2
      apply Array.ext'
      simp
      rfl

theorem rrep_source {P : Program} {F : Fro} {w : World} {sz : Nat} {t e : TypeId} {es : List (List V)} {g off n c : Nat} {us : Array Value} {t' : TypeId} {fr : Nat × Nat} (ht : P.underlying t = some (.slice e)) (hg : w.heap[g]? = some (.cells us t' fr)) (hrr : RepR F sz es (us.toList.drop off)) (hn : n = es.length) :
    Source P sz t (.slice (some ⟨g, off, none⟩) n c) es.length ((us.toList.drop off).take (es.length * sz)) w := by
  have hlen := hrr.len
  refine ⟨.inl ⟨e, ht⟩, fun w' => by rw [← hn]; rfl, fun w' hw' => ?_, ?_⟩
  · have hg2 := hg
    rw [← hw'] at hg2
    refine run_firstCells_some w' sz es.length ⟨g, off, none⟩ n c _ (by rw [List.length_take]; omega) (fun j v hv => ?_)
    rw [Addr.add_mid, cell_of_heap hg2]
    have hj : j < es.length * sz := by
      have := (List.getElem?_eq_some_iff.1 hv).1
      rw [List.length_take] at this; omega
    rw [List.getElem?_take_of_lt hj, List.getElem?_drop] at hv
    simpa using hv
  · rw [List.length_take]; omega

theorem nil_source {P : Program} {w : World} {sz : Nat} {t e : TypeId} {a : Option Addr} {c : Nat} (ht : P.underlying t = some (.slice e)) : Source P sz t (.slice a 0 c) 0 [] w := by
  refine ⟨.inl ⟨e, ht⟩, fun w' => rfl, fun w' _ => ?_, by simp⟩
  cases a with
  | none => rfl
  | some a => simp [Builtin.firstCells, loadCells, loadCellsFrom]

/-- What a source's view comes to. -/
theorem srcK_real {P : Program} {base : World} {F : Fro} {w : World} {h : Hp} (hs : Sim base F h w) {sz : Nat} {t e : TypeId} {y : V} {u : Value} {K : List (List V) → Prop} (ht : P.underlying t = some (.slice e)) (hr : Rep F y u) (hk : srcK sz y h K) :
    ∃ es news, K es ∧ Source P sz t u es.length news w ∧ RepR F sz es news := by
  unfold srcK at hk
  split at hk
  · rename_i s es
    cases hb : Nat.beq s sz with
    | false => rw [hb] at hk; exact hk.elim
    | true =>
    rw [hb] at hk
    have := Nat.eq_of_beq_eq_true hb
    subst this
    cases hr with
    | row0 _ a c => exact ⟨[], [], hk, nil_source ht, .nil _ _⟩
    | row _ _ g off n c vs t' fr hF hn hc hrr =>
      refine ⟨es, _, hk, rrep_source ht (hs.fro g _ hF) hrr hn, hrr.front ?_⟩
      rw [List.take_take, Nat.min_self]
  · rename_i s k off n
    cases hb : Nat.beq s sz with
    | false => rw [hb] at hk; exact hk.elim
    | true =>
    rw [hb] at hk
    have := Nat.eq_of_beq_eq_true hb
    subst this
    obtain ⟨l1, es, l2, rfl, ⟨m, hm, ⟨hle, ⟨es', hes', hK⟩⟩⟩⟩ := hk.open
    subst hm
    have hlen : es'.length = n := by rw [← hes']; simp; omega
    cases hr with
    | osl0 _ _ _ a =>
      have : es' = [] := List.length_eq_zero_iff.1 hlen
      subst this
      exact ⟨[], [], hK, nil_source ht, .nil _ _⟩
    | osl _ _ _ _ c g tot hrk hnc htot hc =>
      rcases hs.out.2.2 with ⟨hv, hv2⟩ | ⟨g', tot', us, t', fr, a, b', c', d, z, y⟩
      · rw [hrk] at hv; cases hv
      · rw [hrk] at a
        cases a
        have h5 := (y.take (off + n)).drop off
        rw [hes'] at h5
        refine ⟨es', _, hK, rrep_source ht c' h5 hlen.symm, h5.front ?_⟩
        rw [List.take_take, Nat.min_self]
  · have := hr.lit
    subst this
    exact ⟨[], [], hk, nil_source ht, .nil _ _⟩
  · exact hk.elim

theorem Sim.fresh_name {base : World} {F : Fro} {h1 h2 : Hp} {w : World} (hs : Sim base F (h1 ++ h2) w) (sz : Nat) : ∃ F' k, FLe F F' ∧ Sim base F' (h1 ++ (k, .blk sz []) :: h2) w := by
  obtain ⟨k, k1, k2, k3, k4, k5⟩ := hs.named none (fun g tot he => by cases he)
  exact ⟨_, k, k4, k5.mid k2 (.inl ⟨k3, rfl⟩)⟩
theorem Sim.fresh_nameT {base : World} {F : Fro} {h1 h2 : Hp} {w : World} (hs : Sim base F (h1 ++ h2) w) (sz : Nat) (c : Nat) : ∃ F' k, nameT k = some c ∧ FLe F F' ∧ Sim base F' (h1 ++ (k, .blk sz []) :: h2) w := by
  obtain ⟨b, hb⟩ := hs.fresh
  obtain ⟨k, h1', h2'⟩ := nameT_ex b c
  obtain ⟨k2, k3, k4, k5⟩ := hs.namedK none k (hb _ h1') (fun g tot he => by cases he) (fun g tot T he => by cases he)
  exact ⟨_, k, h2', k4, k5.mid k2 (.inl ⟨k3, rfl⟩)⟩

section
variable {P : Program} {ρ : Operand → V} {σ : Operand → Option V} {h : Hp} {K : V → Hp → Prop} {KP : List PanicEntry → Hp → Prop} {dst : Option Tmp} {ty : TypeId} {pos : String} {after : Array Edge} {guard : Option (Nat × Bool)}

/-- A new block, appended to nothing. -/
theorem app_new {t t2 e : TypeId} {b : Bool} {sz by' : Nat} {base : World} {F : Fro} {w : World} {h1 h2 : Hp} (hs : Sim base F (h1 ++ h2) w) (ht : P.underlying t = some (.slice e)) (he : lay P e = some (b, sz)) {zs : List Value} (hz : zero? P e = some zs) (hzl : zs.length = sz) (hb : (P.info? e).map (·.bytes) = some by') (hb0 : 0 < by')
    {x : Value} {es : List (List V)} {news : List Value} (hx : Source P sz t2 x es.length news w) (hxr : RepR F sz es news) (hone : ∀ e ∈ es, e.all V.one = true) (hroom : es.length * by' ≤ 140737488355328) {a : Option Addr}
    (hk : ∀ k, nameT k = some (e * 1000) → K (.osl sz k 0 es.length) (h1 ++ (k, .blk sz es) :: h2)) :
    VOut P base F K KP (((do pure (.value (← Builtin.append_ #[t, t2] ty #[.slice a 0 0, x]))) : Sem Next).run P w) := by
  have hn1 : ∀ u ∈ news, u.oneCell' = true := by
    have := hxr.one hone
    rwa [List.take_of_length_le (by rw [hx.count]; exact Nat.le_refl _)] at this
  rcases run_append_at (P := P) ty ht he hz hzl hb hb0 hx hn1 (base := a) (n := 0) (cap := 0) (olds := []) (.inl ⟨rfl, rfl, rfl⟩) (by simpa using hroom) with ⟨hfit, ⟨hm, _, a', hrun⟩ | ⟨g, us, t', fr, rfl, hg, hrun⟩⟩ | ⟨hlt, c, us', hc1, hc2, hc3, hc4, hrun⟩
  · rw [Sem.run_bind, hrun]
    have hes : es = [] := List.length_eq_zero_iff.1 (by omega)
    subst hes
    obtain ⟨F', k, f0, f1, f2⟩ := hs.fresh_nameT sz (e * 1000)
    exact ⟨F', _, f1, f2, _, .osl0 sz k 0 a', hk k f0⟩
  · have hes : es = [] := List.length_eq_zero_iff.1 (by omega)
    subst hes
    have hnn : news = [] := List.length_eq_zero_iff.1 (by simpa using hx.count)
    subst hnn
    rw [Sem.run_bind, hrun]
    obtain ⟨F', k, f0, f1, f2⟩ := hs.fresh_nameT sz (e * 1000)
    exact ⟨F', _, f1, by simpa [World.setCells] using f2, _, .osl0 sz k 0 _, hk k f0⟩
  · rw [Sem.run_bind, hrun]
    rw [Nat.zero_add] at *
    have hp : RepR F sz es us'.toList := by
      refine hxr.front ?_
      rw [hc3, List.nil_append]
      rw [List.take_of_length_le (by rw [hx.count]; exact Nat.le_refl _)]
    obtain ⟨F', k, f0, f1, f2, f3⟩ := Sim.allocC hs.drew us' e hp
    refine ⟨F', _, f1, f3, _, ?_, hk k f0⟩
    have := Rep.osl (F := F') sz k 0 es.length c _ _ f2 hc1 (by rw [Nat.zero_add, hc4]; exact Nat.le_refl _) hc2
    simpa using this

theorem appToK_real {t t2 e : TypeId} {b : Bool} {sz by' : Nat} {base : World} {F : Fro} {w : World} (hs : Sim base F h w) (ht : P.underlying t = some (.slice e)) (he : lay P e = some (b, sz)) {zs : List Value} (hz : zero? P e = some zs) (hzl : zs.length = sz) (hb : (P.info? e).map (·.bytes) = some by') (hb0 : 0 < by')
    {x : V} {u : Value} {y : Value} {es2 : List (List V)} {news : List Value} (hxr : Rep F x u) (hy : Source P sz t2 y es2.length news w) (hyr : RepR F sz es2 news) (hk : appToK (e * 1000) sz by' x es2 h K) :
    VOut P base F K KP (((do pure (.value (← Builtin.append_ #[t, t2] ty #[u, y]))) : Sem Next).run P w) := by
  unfold appToK at hk
  split at hk
  · have := hxr.lit
    subst this
    obtain ⟨es', m, h1, h2, h3, h4, ⟨h5, h6⟩⟩ := hk
    rw [List.nil_append] at h2
    subst h2
    rw [Nat.zero_add] at h3
    subst h3
    exact app_new (h1 := []) hs ht he hz hzl hb hb0 hy hyr h4 h5 (fun k hk => h6.allc k hk)
  · rename_i s k n
    cases hbq : Nat.beq s sz with
    | false => rw [hbq] at hk; exact hk.elim
    | true =>
    rw [hbq] at hk
    have := Nat.eq_of_beq_eq_true hbq
    subst this
    obtain ⟨l1, es, l2, rfl, ⟨es', m, h1, h2, h3, h4, ⟨h5, h6⟩⟩⟩ := hk.open
    subst h2; subst h3
    have hn1 : ∀ u ∈ news, u.oneCell' = true := by
      have := hyr.one h4
      rwa [List.take_of_length_le (by rw [hy.count]; exact Nat.le_refl _)] at this
    obtain ⟨s1, s2, s3⟩ := hs.out
    cases hxr with
    | osl0 _ _ _ a =>
      have : es = [] := List.length_eq_zero_iff.1 h1
      subst this
      refine app_new (K := K) s1 ht he hz hzl hb hb0 hy hyr h4 (by simpa using h5) (fun k' hk' => ?_)
      have := h6.allc k' (.inl hk')
      simpa using this
    | osl _ _ _ _ c g tot hrk hnc htot hc =>
      rcases s3 with ⟨hv, hv2⟩ | ⟨g', tot', us, t', fr, a, b', c', d, z, y'⟩
      · rw [hrk] at hv; cases hv
      · rw [hrk] at a
        cases a
        rw [Nat.zero_add] at htot
        rw [Nat.zero_mul]
        have hlen := y'.len
        rcases run_append_at (P := P) ty ht he hz hzl hb hb0 hy hn1 (base := some ⟨g, 0, none⟩) (n := n) (cap := c) (olds := us.toList.take (n * s)) (.inr ⟨g, us, t', fr, rfl, c', d, by omega, rfl, hnc, hc⟩) h5 with ⟨hfit, ⟨hm, hcap, a', hrun⟩ | ⟨g2, us2, t2', fr2, hbb, hg2, hrun⟩⟩ | ⟨hlt, cc, us', hc1, hc2, hc3, hc4, hrun⟩
        · rw [Sem.run_bind, hrun]
          have hn0 : n = 0 := by omega
          have he2 : es2 = [] := List.length_eq_zero_iff.1 (by omega)
          subst he2
          have : es = [] := List.length_eq_zero_iff.1 (by omega)
          subst this
          subst hn0
          obtain ⟨F', k', f0, f1, f2⟩ := s1.fresh_nameT s (e * 1000)
          exact ⟨F', _, f1, f2, _, .osl0 s k' 0 a', h6.allc k' (.inl f0)⟩
        · cases hbb
          rw [c'] at hg2
          cases hg2
          rw [Sem.run_bind, hrun]
          have hle : (n + es2.length) * s ≤ c * s := Nat.mul_le_mul_right _ hfit
          have hcount := hy.count
          rw [Nat.add_mul] at hle
          obtain ⟨us3, e1, e2, e3, e4, e5, e6, e7⟩ := heap_setCells g news (n * s) w us t' fr c' (by rw [hcount]; omega)
          have hgr : w.grownBy (w.setCells g (n * s) news) (some g) := ⟨e5, e6, e7, by rw [e4]; exact Nat.le_refl _, fun k hk hne => e3 k fun he => hne (by rw [he])⟩
          have hsz : us3.size = us.size := by
            have : us3.toList.length = us.toList.length := by
              rw [e1]; simp; rw [hcount]; omega
            simpa using this
          have s4 := s1.grown hgr (fun g2 he2 => by
            cases he2
            refine ⟨(s1.adr _ _ _ hrk).1, b', fun k' tot' c' hr' hm => ?_⟩
            have := s1.inj _ _ _ _ _ hrk hr'
            subst this
            exact s2 _ hm) (fun g2 he2 => by
            cases he2
            intro _ _ _ _ _
            unfold World.shape?
            rw [e2, c']
            simp only [hsz])
          have hrr : RepR F s (es ++ es2) us3.toList := by
            have h7 : RepR F s es (us.toList.take (n * s)) := y'.front (by rw [h1, List.take_take, Nat.min_self])
            have h8 := h7.append hyr (by rw [h1, List.length_take, Nat.min_eq_left (by rw [h1] at hlen; omega)])
            refine h8.front ?_
            have htl : (us.toList.take (n * s)).length = n * s := by rw [List.length_take, Nat.min_eq_left (by rw [h1] at hlen; omega)]
            have hl2 : (us.toList.take (n * s) ++ news).length = (es ++ es2).length * s := by
              rw [List.length_append, htl, hcount, List.length_append, h1, Nat.add_mul]
            rw [e1, List.take_append_of_le_length (by rw [hl2]; exact Nat.le_refl _)]
          have s5 := s4.mid s2 (c := .blk s (es ++ es2)) (.inr ⟨g, us.size, us3, t', fr, by rw [z]; exact hrk, b', e2, fun p hp => by rw [hsz] at hp; exact d p hp, hsz, hrr⟩)
          refine ⟨F, _, FLe.refl F, s5, _, ?_, h6.allc k (.inr rfl)⟩
          have := Rep.osl (F := F) s k 0 (n + es2.length) c _ _ hrk hfit (by rw [Nat.zero_add]; omega) hc
          simpa using this
        · rw [Sem.run_bind, hrun]
          have hp : RepR F s (es ++ es2) us'.toList := by
            have h7 : RepR F s es (us.toList.take (n * s)) := y'.front (by rw [h1, List.take_take, Nat.min_self])
            have htl : (us.toList.take (n * s)).length = n * s := by rw [List.length_take, Nat.min_eq_left (by rw [h1] at hlen; omega)]
            have h8 := h7.append hyr (by rw [h1, htl])
            refine h8.front ?_
            have hl3 : (es ++ es2).length * s = (n + es2.length) * s := by rw [List.length_append, h1]
            rw [hl3, hc3]
            refine (List.take_of_length_le ?_).symm
            rw [List.length_append, htl, hy.count, Nat.add_mul]; exact Nat.le_refl _
          obtain ⟨F', k', f0, f1, f2, f3⟩ := Sim.allocC s1.drew us' e hp
          refine ⟨F', _, f1, f3, _, ?_, h6.allc k' (.inl f0)⟩
          have := Rep.osl (F := F') s k' 0 (n + es2.length) cc _ _ f2 hc1 (by rw [Nat.zero_add, hc4]; exact Nat.le_refl _) hc2
          simpa using this
  · exact hk.elim

theorem w_app {t t2 e e2 : TypeId} {x y : Operand} {b : Bool} {sz : Nat} {i : TypeInfo} {zs : List Value} (ht : P.underlying t = some (.slice e)) (ht2 : P.underlying t2 = some (.slice e2)) (he : lay P e = some (b, sz)) (hz : zero? P e = some zs) (hi : P.info? e = some i) (hzl : zs.length = sz) (hb0 : 0 < i.bytes) (hf : Fits σ ρ)
    (h0 : on (σ x) fun vx => on (σ y) fun vy => appK (e * 1000) sz i.bytes vx vy h K) : VOp P ⟨dst, .call ⟨.builtin .append, #[x, y], #[t, t2]⟩, ty, pos, after, guard⟩ ρ h K KP := by
  obtain ⟨vx, h1, hq0⟩ := on_get h0
  obtain ⟨vy, h2, hq⟩ := on_get hq0
  have hx := hf _ _ h1
  have hy := hf _ _ h2
  intro base F w ρ' hs hr
  have e1 := hr x (by simp [Op.operands, Call.operands]); rw [hx] at e1
  have e2 := hr y (by simp [Op.operands, Call.operands]); rw [hy] at e2
  obtain ⟨es, news, k1, k2, k3⟩ := srcK_real (P := P) hs ht2 e2 hq
  have := appToK_real (P := P) (K := K) (KP := KP) (ty := ty) hs ht he hz hzl (by rw [hi]; rfl) hb0 e1 k2 k3 k1
  simpa [execOp, resolve, invoke, builtin] using this

theorem w_apps {t t2 e : TypeId} {x y : Operand} {b : Bool} {i : TypeInfo} {zs : List Value} (ht : P.underlying t = some (.slice e)) (ht2 : P.underlying t2 = some .string) (he : lay P e = some (b, 1)) (hz : zero? P e = some zs) (hi : P.info? e = some i) (hzl : zs.length = 1) (hb0 : 0 < i.bytes) (hf : Fits σ ρ)
    (h0 : on (σ x) fun vx => on (σ y) fun vy => appsK (e * 1000) i.bytes vx vy h K) : VOp P ⟨dst, .call ⟨.builtin .append, #[x, y], #[t, t2]⟩, ty, pos, after, guard⟩ ρ h K KP := by
  obtain ⟨vx, h1, hq0⟩ := on_get h0
  obtain ⟨vy, h2, hq⟩ := on_get hq0
  have hx := hf _ _ h1
  have hy := hf _ _ h2
  unfold appsK at hq
  split at hq
  · rename_i l
    intro base F w ρ' hs hr
    have e1 := hr x (by simp [Op.operands, Call.operands]); rw [hx] at e1
    have e2 := hr y (by simp [Op.operands, Call.operands]); rw [hy] at e2; have e2 := e2.lit
    have hlen : (rInts .u8 (nums l)).length = l.length := by simp [rInts, nums]
    have k2 : Source P 1 t2 (str l) (rInts .u8 (nums l)).length (l.map fun b => Value.int .u8 b.toNat) w := by
      have hsz : (ByteArray.mk (Array.mk l)).size = l.length := rfl
      refine ⟨.inr ht2, fun w' => by rw [hlen]; rfl, fun w' _ => ?_, by simp [hlen]⟩
      rw [hlen]
      have : (ByteArray.mk (Array.mk l)).extract 0 l.length = ⟨⟨l⟩⟩ := by rw [← hsz]; simp
      simp only [Builtin.firstCells, this, Sem.run_pure]
      congr 1
      apply Array.ext'
      simp
    have k3 : RepR F 1 (rInts .u8 (nums l)) (l.map fun b => Value.int .u8 b.toNat) := by
      refine RepR.ofL (fun e he => ?_) ?_
      · obtain ⟨n, _, rfl⟩ := List.mem_map.1 he; rfl
      · have := RepL.lits (F := F) (l.map fun b => Value.int .u8 b.toNat)
        have e2 : (rInts .u8 (nums l)).flatten = (l.map fun b => Value.int .u8 b.toNat).map V.v := by
          unfold rInts nums
          rw [List.map_map, List.map_map]
          exact flatten_ones _ _
        rw [e2]; exact this
    have := appToK_real (P := P) (K := K) (KP := KP) (ty := ty) hs ht he hz hzl (by rw [hi]; rfl) hb0 e1 k2 k3 hq
    simpa [execOp, resolve, invoke, builtin, e2] using this
  · exact hq.elim

theorem ovW_sound {o : Oper} {own : Bool} {p : OW} (hc : compW P own o.op = some p) (hf : Fits σ ρ) (hfn : ∀ f, ρ (.func f) = .v (.func (.func f) #[] #[])) (h0 : ovW P p σ h K KP) : VOp P o ρ h K KP := by
  obtain ⟨dst, op, ty, pos, after, guard⟩ := o
  dsimp only at hc
  unfold compW at hc
  split at hc
  · split at hc
    · rename_i hl
      split at hc
      · rename_i hb; cases hc; exact w_st hl hb hf h0
      · cases hc
    · cases hc
  · split at hc
    · rename_i hl
      split at hc
      · rename_i hb; cases hc; exact w_box hl hb hf h0
      · cases hc
    · cases hc
  · split at hc
    · rename_i hl hz
      split at hc
      · rename_i hzl; cases hc; exact w_alloc hl hz hzl h0
      · cases hc
    · cases hc
  · split at hc
    · rename_i ht
      split at hc
      · rename_i he hz
        split at hc
        · rename_i hb; cases hc; exact w_lit ht he hz hb.1 hb.2.1 hb.2.2.1 hb.2.2.2.1 hb.2.2.2.2 hf h0
        · cases hc
      · cases hc
    · cases hc
  · split at hc
    · rename_i ht
      split at hc
      · rename_i he hz hi
        split at hc
        · rename_i hb; cases hc; exact w_make ht he hz hi hb hf h0
        · cases hc
      · cases hc
    · cases hc
  · split at hc
    · rename_i hsu ht
      split at hc
      · rename_i he; cases hc; exact w_bytes hsu ht he hf h0
      · cases hc
    · cases hc
  · rename_i args ts
    split at hc
    · rename_i x y t t2 h1 h2
      have e1 : args = #[x, y] := by apply Array.ext'; simpa using h1
      have e2 : ts = #[t, t2] := by apply Array.ext'; simpa using h2
      subst e1; subst e2
      split at hc
      · rename_i ht
        split at hc
        · rename_i he hz hi
          split at hc
          · rename_i hb
            split at hc
            · rename_i ht2; cases hc; exact w_app ht ht2 he hz hi hb.1 hb.2 hf h0
            · rename_i ht2
              split at hc
              · rename_i hs1
                subst hs1
                cases hc; exact w_apps ht ht2 he hz hi hb.1 hb.2 hf h0
              · cases hc
            · cases hc
          · cases hc
        · cases hc
      · cases hc
    · cases hc
  · split at hc
    · cases hc; exact w_call hf (hfn _) h0
    · cases hc
  · cases hc; exact w_callv hf h0
  · cases hc
end
end Go.XW
