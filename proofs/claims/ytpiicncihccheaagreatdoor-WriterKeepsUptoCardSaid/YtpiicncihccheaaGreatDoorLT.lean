/- The decoder's tables, as a row lists them. -/
import Derived.Test.YtpiicncihccheaaGreatDoorSH
import Derived.Test.YtpiicncihccheaaGreatDoorXT
import Derived.Test.YtpiicncihccheaaGreatDoorRows
import Derived.Lib.LaidU8T
import Derived.OpenShut
namespace Go.Proofs.YtpiicncihccheaaGreatDoor
open Go.XW Go.Lib Go.RowKit Go.Shelf Go.Proofs
theorem u8types : U8Types Tryz.prog laysValid_ren := .of196 laysValid
theorem u8extra : U8Extra Tryz.prog laysValid_ren := {
  n3 := by kernel_rfl
  n4 := by kernel_rfl
  y3 := by kernel_rfl
  y4 := by kernel_rfl
  c5 := by kernel_rfl
  c119 := by kernel_rfl
  c138 := by kernel_rfl }
theorem first_eq : Go.Pinned.utf8First = firstData := by kernel_rfl
theorem accept_eq : (Rows.laid_unicode_utf8_acceptRanges : DataW Unit) = acceptData := by kernel_rfl
theorem cells_first : Tryz.prog.cellsOf 211 = 256 := by kernel_rfl
theorem cells_accept : Tryz.prog.cellsOf 214 = 32 := by kernel_rfl
def u8ts : List (Nat × List Value) := [(0, firstVs), (1, acceptVs)]
theorem Tabs.u8 : Tabs (tabH 0 u8ts) := ⟨0, 1, by simp [u8ts, tabH], by simp [u8ts, tabH]⟩
theorem var_block {w : World} {n : String} {g : Nat} {cs : Array Value} (hg : Tryz.prog.globalNamed n = some g) (h : w.var? Tryz.prog n = some cs) : ∃ t fr, w.heap[g]? = some (.cells cs t fr) := by
  unfold World.var? at h
  rw [hg] at h
  simp only [Option.bind_some] at h
  split at h
  · rename_i cs' t fr hh
    cases h
    exact ⟨t, fr, hh⟩
  · cases h
theorem firstVs_len : firstVs.length = 256 := by simp [firstVs]
theorem acceptVs_len : acceptVs.length = 32 := by decide +kernel
/-- The tables lie there. -/
theorem u8_lies {W : World} (h3 : VarReads Tryz.prog W "unicode/utf8.first" firstData) (h4 : VarReads Tryz.prog W "unicode/utf8.acceptRanges" acceptData) : ∀ g vs, (g, vs) ∈ u8ts → ∃ t fr, W.heap[g]? = some (.cells vs.toArray t fr) := by
  have hu : Lib.Utf8Tabs 0 1 W := utf8Tabs_of_readsT u8types u8extra h3 h4
  intro g vs hm
  have hm2 : (g, vs) = (0, firstVs) ∨ (g, vs) = (1, acceptVs) := by simpa [u8ts] using hm
  rcases hm2 with hm2 | hm2
  · cases hm2
    obtain ⟨g, t, cs, fuel, p, hg, hty, hvar, hd⟩ := h3
    obtain rfl := Option.some.inj (u8extra.n3.symm.trans hg)
    obtain rfl := Option.some.inj (u8extra.y3.symm.trans hty)
    obtain ⟨t, fr, hb⟩ := var_block u8extra.n3 hvar
    obtain ⟨_, _, _, _, hl, _⟩ := DataW.trod_array u8types.t119 hd
    refine ⟨t, fr, block_of_cells hb ?_ fun j hj => ?_⟩
    · rw [firstVs_len]; exact (show cs.size = Tryz.prog.cellsOf 211 from (Array.length_toList (xs := cs)).symm.trans hl).trans cells_first
    · rw [firstVs_len] at hj
      rw [hu.1 j hj]
      simp [firstVs, hj]
  · cases hm2
    obtain ⟨g, t, cs, fuel, p, hg, hty, hvar, hd⟩ := h4
    obtain rfl := Option.some.inj (u8extra.n4.symm.trans hg)
    obtain rfl := Option.some.inj (u8extra.y4.symm.trans hty)
    obtain ⟨t, fr, hb⟩ := var_block u8extra.n4 hvar
    obtain ⟨_, _, _, _, hl, _⟩ := DataW.trod_array u8types.t139 hd
    refine ⟨t, fr, block_of_cells hb ?_ fun j hj => ?_⟩
    · rw [acceptVs_len]; exact (show cs.size = Tryz.prog.cellsOf 214 from (Array.length_toList (xs := cs)).symm.trans hl).trans cells_accept
    · rw [acceptVs_len] at hj
      obtain ⟨h1, h2⟩ := hu.2 (j / 2) (by omega)
      obtain ⟨a1, a2⟩ := accept_at ⟨j / 2, by omega⟩
      dsimp only at a1 a2
      by_cases hp : j % 2 = 0
      · have e : 2 * (j / 2) = j := by omega
        rw [e] at h1 a1
        rw [h1]
        simp [acceptVs, a1]
      · have e : 2 * (j / 2) + 1 = j := by omega
        rw [e] at h2 a2
        rw [h2]
        simp [acceptVs, a2]
end Go.Proofs.YtpiicncihccheaaGreatDoor
