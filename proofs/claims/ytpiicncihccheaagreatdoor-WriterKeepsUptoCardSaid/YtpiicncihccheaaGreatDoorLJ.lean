/- Values of JSON among the arguments: what reads as one is one. -/
import Derived.Test.YtpiicncihccheaaGreatDoorXR
import Derived.Test.YtpiicncihccheaaGreatDoorJ0
import Derived.Test.YtpiicncihccheaaGreatDoorRows
import Derived.Test.YtpiicncihccheaaGreatDoorProg
import Derived.WideShapes
namespace Go.Proofs.YtpiicncihccheaaGreatDoor
open Go.XW Go.XW.DU Go.Lib Go.XW.U Go.RowKit Go.ChangeShapes Go.WideShapes
theorem cells_value : Tryz.prog.cellsOf 49 = 5 := by kernel_rfl
theorem cells_int : Tryz.prog.cellsOf 3 = 1 := by kernel_rfl
theorem cells_string : Tryz.prog.cellsOf 9 = 1 := by kernel_rfl
section
variable {H : Type} {enc : TypeId × Value → H} {W : World}
theorem bulkAll_le {d : DataW H} : ∀ {l : List (DataW H)}, d ∈ l → Rows.uptoBulk d ≤ Rows.uptoBulkAll l
  | x :: r, h => by
    rcases List.mem_cons.1 h with rfl | h
    · simp [Rows.uptoBulkAll]
    · have := bulkAll_le h; simp [Rows.uptoBulkAll]; omega
theorem bulkAll_app : ∀ a b : List (DataW H), Rows.uptoBulkAll (a ++ b) = Rows.uptoBulkAll a + Rows.uptoBulkAll b
  | [], b => by simp [Rows.uptoBulkAll]
  | x :: a, b => by simp [Rows.uptoBulkAll, bulkAll_app a b]; omega
/-- A slice of things that are read one by one. -/
theorem slice_open {α : Type} {t e : TypeId} {sz fuel : Nat} {cs : List Value} {x : DataW H × List MemPlace} (cells : α → List V) (size : α → Nat) (ht : Tryz.prog.underlying t = some (.slice e)) (hc : Tryz.prog.cellsOf e = sz) (hsz : 0 < sz)
    (h : DataW.trod enc Tryz.prog W 0 (fun _ => true) true fuel t cs = some x)
    (each : ∀ (d : DataW H) (n : Nat) (cs : List Value) (ps : List MemPlace), Rows.uptoBulk d < Rows.uptoBulk x.1 → DataW.trod enc Tryz.prog W 0 (fun _ => true) true n e cs = some (d, ps) → ∃ J : α, RepL (froOf W) (cells J) cs ∧ size J ≤ Rows.uptoBulk d) :
    ∃ l : List α, RepL (froOf W) [.row sz (l.map cells)] cs ∧ (l.map size).sum + 1 ≤ Rows.uptoBulk x.1 := by
  rcases Go.Deep.open_slice ht h with ⟨rfl, rfl⟩ | ⟨a, len, cap, m, n, D, Pl, rfl, hb, hl, hm, hmm, rfl, hx⟩
  · exact ⟨[], .cons _ _ _ _ (.row0 sz none 0) .nil, by simp [Rows.uptoBulk]⟩
  · rw [hc] at hx
    have hmcap : m = cap := by rw [hmm, if_pos rfl]
    have hbulk : Rows.uptoBulk (DataW.slice ((List.range len).map D) ((List.range (m - len)).map fun j => D (len + j))) = Rows.uptoBulkAll ((List.range len).map D) + Rows.uptoBulkAll ((List.range (m - len)).map fun j => D (len + j)) + 1 := by simp [Rows.uptoBulk]
    obtain ⟨l, h1, h2⟩ := list_of_each (p := fun i J => ∃ cs, W.cells? 0 (a.add (i * sz)) sz = some cs ∧ RepL (froOf W) (cells J) cs ∧ size J ≤ Rows.uptoBulk (D i)) len fun i hi => by
      obtain ⟨cs, g1, g2⟩ := hx i (by omega)
      obtain ⟨J, g3, g4⟩ := each (D i) n cs (Pl i) (by
        have : Rows.uptoBulk (D i) ≤ Rows.uptoBulkAll ((List.range len).map D) := bulkAll_le (List.mem_map.2 ⟨i, by simpa using hi, rfl⟩)
        show _ < Rows.uptoBulk (DataW.slice _ _)
        omega) g2
      exact ⟨J, cs, g1, g3, g4⟩
    refine ⟨l, .cons _ _ _ _ (rep_slice (by simpa using h1) hl hsz fun i hi => ?_) .nil, ?_⟩
    · obtain ⟨cs, g1, g2, _⟩ := h2 i (by simpa using hi)
      exact ⟨cs, g1, by simpa using g2⟩
    · show _ ≤ Rows.uptoBulk (DataW.slice _ _)
      rw [hbulk]
      have key : ∀ (k : Nat), k ≤ len → ((l.map size).take k).sum ≤ Rows.uptoBulkAll ((List.range k).map D) := by
        intro k
        induction k with
        | zero => intro _; simp
        | succ k ih =>
          intro hk
          have h3 := ih (by omega)
          obtain ⟨_, _, _, g4⟩ := h2 k (by omega)
          rw [List.take_succ_eq_append_getElem (by simp; omega : k < (l.map size).length), List.range_succ, List.map_append, List.sum_append, bulkAll_app]
          simp only [List.getElem_map, List.sum_cons, List.sum_nil, List.map_cons, List.map_nil, Rows.uptoBulkAll]
          omega
      have := key len (Nat.le_refl _)
      rw [List.take_of_length_le (by simp; omega)] at this
      omega
theorem keys_open {t : TypeId} {fuel : Nat} {cs : List Value} {x : DataW H × List MemPlace} (ht : Tryz.prog.underlying t = some (.slice 9)) (h : DataW.trod enc Tryz.prog W 0 (fun _ => true) true fuel t cs = some x) :
    ∃ l : List (List UInt8), RepL (froOf W) [.row 1 (l.map keyC)] cs ∧ keysB l + 1 ≤ Rows.uptoBulk x.1 := by
  obtain ⟨l, h1, h2⟩ := slice_open keyC (fun k => k.length + 1) ht cells_string (by decide) h fun d n cs ps _ hd => by
    obtain ⟨s, rfl, hx, _⟩ := DataW.trod_string Tryz.underlying9 hd
    cases hx
    obtain ⟨⟨s⟩⟩ := s
    exact ⟨s, .cons _ _ _ _ (.v _) .nil, by simp [Rows.uptoBulk]⟩
  refine ⟨l, h1, ?_⟩
  have : keysB l = (l.map fun k => k.length + 1).sum := by
    clear h1 h2
    induction l with
    | nil => rfl
    | cons k r ih => simp [keysB, ih]
  omega
theorem bkL_sum : ∀ l : List JV, bkL l = (l.map JV.bk).sum
  | [] => rfl
  | x :: r => by simp [bkL, bkL_sum r]
set_option maxRecDepth 100000 in
theorem jv_open : ∀ (m : Nat) (d : DataW H) (fuel : Nat) (cs : List Value) (ps : List MemPlace), Rows.uptoBulk d ≤ m → DataW.trod enc Tryz.prog W 0 (fun _ => true) true fuel 49 cs = some (d, ps) → ∃ J : JV, RepL (froOf W) J.c5 cs ∧ J.bk ≤ Rows.uptoBulk d := by
  intro m
  induction m with
  | zero =>
    intro d fuel cs ps hm
    cases d with
    | lit l => cases l <;> simp [Rows.uptoBulk] at hm
    | _ => simp [Rows.uptoBulk] at hm
  | succ m ih =>
    intro d fuel cs ps hm h
    obtain ⟨y0, y1, y2, y3, y4, n, hd, hl, h0, h1, h2, h3, h4⟩ := trod_struct5 Tryz.underlying49 h
    dsimp only at hd
    subst hd
    rw [cells_value] at hl
    match cs, hl with
    | [c0, c1, c2, c3, c4], _ =>
      obtain ⟨k, e0, z0, _⟩ := DataW.trod_int Tryz.underlying3 h0
      obtain ⟨sn, e1, z1, _⟩ := DataW.trod_string Tryz.underlying9 h1
      obtain ⟨st, e2, z2, _⟩ := DataW.trod_string Tryz.underlying9 h2
      have hb : Rows.uptoBulk (DataW.agg [y0.1, y1.1, y2.1, y3.1, y4.1]) = Rows.uptoBulk y0.1 + (Rows.uptoBulk y1.1 + (Rows.uptoBulk y2.1 + (Rows.uptoBulk y3.1 + (Rows.uptoBulk y4.1 + 0)))) + 1 := by simp [Rows.uptoBulk, Rows.uptoBulkAll]
      obtain ⟨is, g3, b3⟩ := slice_open JV.c5 JV.bk Tryz.underlying22 cells_value (by decide) h3 fun d n cs ps hlt hd => ih d n cs ps (by omega) hd
      obtain ⟨ks, g4, b4⟩ := keys_open Tryz.underlying47 h4
      obtain ⟨⟨sn⟩⟩ := sn
      obtain ⟨⟨st⟩⟩ := st
      have e0' : c0 = .int .i64 k := by simpa [cells_int] using e0
      have e1' : c1 = .string ⟨⟨sn⟩⟩ := by simpa [cells_string] using e1
      have e2' : c2 = .string ⟨⟨st⟩⟩ := by simpa [cells_string] using e2
      subst e0' e1' e2'
      have q3 : RepL (froOf W) [.row 5 (is.map JV.c5)] [c3] := g3
      have q4 : RepL (froOf W) [.row 1 (ks.map keyC)] [c4] := g4
      refine ⟨.mk k sn st is ks, ?_, ?_⟩
      · refine .cons _ _ _ _ (.v _) (.cons _ _ _ _ (.v _) (.cons _ _ _ _ (.v _) ?_))
        have hm2 : (JV.mk k sn st is ks).items.map JV.cells = is.map JV.c5 := List.map_congr_left fun x _ => x.cells_c5
        rw [hm2]
        cases q3 with
        | cons _ _ _ _ r3 _ => cases q4 with
          | cons _ _ _ _ r4 _ => exact .cons _ _ _ _ r3 (.cons _ _ _ _ r4 .nil)
      · rw [hb, z0, z1, z2]
        simp only [JV.bk, Rows.uptoBulk]
        rw [bkL_sum]
        have q1 : sn.length + 1 ≤ Rows.uptoBulk (DataW.lit (H := H) (.string sn)) := by simp [Rows.uptoBulk]
        show 1 + sn.length + st.length + _ + keysB ks ≤ 1 + (sn.length + 1 + (st.length + 1 + _)) + 1
        omega
set_option maxRecDepth 100000 in
theorem jvs_open {r : Reach} {b0 : Nat} {v : Value} {d : DataW H} {fuel : Nat} {ps : List MemPlace} (hv : Value.okWide Tryz.prog W r b0 22 v) (h : DataW.trod enc Tryz.prog W 0 (fun _ => true) true fuel 22 v.cells.toList = some (d, ps)) :
    ∃ l : List JV, Rep (froOf W) (.row 5 (l.map JV.cells)) v ∧ bkL l + 1 ≤ Rows.uptoBulk d := by
  obtain ⟨a, n, c, rfl⟩ := okWide_slice Tryz.underlying22 hv
  obtain ⟨l, h1, h2⟩ := slice_open JV.c5 JV.bk Tryz.underlying22 cells_value (by decide) h fun d n cs ps hlt hd => jv_open _ d n cs ps (Nat.le_refl _) hd
  refine ⟨l, ?_, by rw [bkL_sum]; exact h2⟩
  have hm2 : l.map JV.cells = l.map JV.c5 := List.map_congr_left fun x _ => x.cells_c5
  rw [hm2]
  have h1' : RepL (froOf W) [.row 5 (l.map JV.c5)] [Value.slice a n c] := by simpa [Value.cells] using h1
  cases h1' with
  | cons _ _ _ _ r4 _ => exact r4
end
end Go.Proofs.YtpiicncihccheaaGreatDoor
