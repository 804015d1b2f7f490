/- What strconv looks at, as a row lists it. -/
import Derived.Test.YtpiicncihccheaaDoorSI
import Derived.Test.YtpiicncihccheaaDoorXT
import Derived.Test.YtpiicncihccheaaDoorRows
import Derived.Lib.LaidU8
import Derived.Lib.LaidTab
import Derived.OpenShut
namespace Go.Proofs.YtpiicncihccheaaDoor
open Go.XW Go.Lib Go.RowKit Go.Shelf Go.Proofs
theorem cells_u64 : Tryd.prog.cellsOf 106 = 1 := by kernel_rfl
theorem cells_pow : Tryd.prog.cellsOf 120 = 20 := by kernel_rfl
theorem pow_data : (Rows.laid_internal_strconv_uint64pow10 : DataW Unit) = tabData .u64 pow10Tab := by kernel_rfl
theorem cvar_block {w : World} {n : String} {g : Nat} {cs : Array Value} (hg : Tryd.prog.globalNamed n = some g) (h : w.var? Tryd.prog n = some cs) : ∃ t fr, w.heap[g]? = some (.cells cs t fr) := by
  unfold World.var? at h
  rw [hg] at h
  simp only [Option.bind_some] at h
  split at h
  · rename_i cs' t fr hh
    cases h
    exact ⟨t, fr, hh⟩
  · cases h
theorem trod_err {H : Type} {enc : TypeId × Value → H} {P : Program} {w : World} {base fuel : Nat} {sp : Nat → Bool} {t : TypeId} {ms : _} {cs : List Value} {nm : String} {d : DataW H} {p : List MemPlace} (ht : P.underlying t = some (.interface ms))
    (h : DataW.trod enc P w base sp false fuel t cs = some (.iface nm d, p)) : ∃ u v, cs = [.iface u v] := by
  cases fuel with
  | zero => simp [DataW.trod] at h
  | succ n =>
    unfold DataW.trod at h
    rw [ht] at h
    split at h <;> first
      | (rename_i heq; cases heq; done)
      | (cases h; done)
      | exact ⟨_, _, rfl⟩
theorem err_lies {W : World} {n : String} {g : Nat} {nm : String} {d : DataW Unit} (hg : Tryd.prog.globalNamed n = some g) (hty : (Tryd.prog.globals[g]?).map (·.type) = some 64) (hr : VarReads Tryd.prog W n (.iface nm d)) : ∃ u v t fr, W.heap[g]? = some (.cells [Value.iface u v].toArray t fr) := by
  obtain ⟨g', t, cs, fuel, p, hg', hty', hvar, hd⟩ := hr
  obtain rfl := Option.some.inj (hg.symm.trans hg')
  obtain rfl := Option.some.inj (hty.symm.trans hty')
  obtain ⟨t, fr, hb⟩ := cvar_block hg hvar
  obtain ⟨u, v, hc⟩ := trod_err Tryd.underlying64 hd
  refine ⟨u, v, t, fr, ?_⟩
  rw [hb, ← hc]
theorem pow_lies {W : World} (hr : VarReads Tryd.prog W "internal/strconv.uint64pow10" Rows.laid_internal_strconv_uint64pow10) : ∃ t fr, W.heap[4]? = some (.cells powVs.toArray t fr) := by
  rw [pow_data] at hr
  obtain ⟨g', t, cs, fuel, p, hg', hty', hvar, hd⟩ := hr
  have hg : Tryd.prog.globalNamed "internal/strconv.uint64pow10" = some 4 := by kernel_rfl
  have hty : (Tryd.prog.globals[4]?).map (·.type) = some 120 := by kernel_rfl
  obtain rfl := Option.some.inj (hg.symm.trans hg')
  obtain rfl := Option.some.inj (hty.symm.trans hty')
  obtain ⟨t, fr, hb⟩ := cvar_block hg hvar
  have hcs := cells_of_tab Tryd.underlying120 Tryd.underlying106 cells_u64 cells_pow hd
  refine ⟨t, fr, ?_⟩
  rw [hb]
  have : cs = powVs.toArray := by rw [← Array.toArray_toList (xs := cs), hcs]; rfl
  rw [this]
def convTs (e1 e2 : Value) : List (Nat × List Value) := [(4, powVs), (2, [e1]), (3, [e2])]
theorem ConvT.mk' {e1 e2 : Value} (h1 : ∃ te pe, e1 = .iface te pe) (h2 : ∃ te pe, e2 = .iface te pe) : ConvT (tabH 0 (convTs e1 e2)) e1 e2 :=
  ⟨⟨0, by simp [convTs, tabH]⟩, ⟨1, by simp [convTs, tabH]⟩, ⟨2, by simp [convTs, tabH]⟩, .inr h1, .inr h2⟩
theorem conv_lies {W : World} (h1 : VarReads Tryd.prog W "internal/strconv.uint64pow10" Rows.laid_internal_strconv_uint64pow10) (h2 : VarReads Tryd.prog W "strconv.ErrSyntax" Rows.laid_strconv_ErrSyntax) (h3 : VarReads Tryd.prog W "strconv.ErrRange" Rows.laid_strconv_ErrRange) :
    ∃ e1 e2, (∃ te pe, e1 = Value.iface te pe) ∧ (∃ te pe, e2 = Value.iface te pe) ∧ ∀ g vs, (g, vs) ∈ convTs e1 e2 → ∃ t fr, W.heap[g]? = some (.cells vs.toArray t fr) := by
  obtain ⟨u1, v1, t1, fr1, b1⟩ := err_lies (g := 2) (by kernel_rfl) (by kernel_rfl) h2
  obtain ⟨u2, v2, t2, fr2, b2⟩ := err_lies (g := 3) (by kernel_rfl) (by kernel_rfl) h3
  refine ⟨_, _, ⟨u1, v1, rfl⟩, ⟨u2, v2, rfl⟩, fun g vs hm => ?_⟩
  simp only [convTs, List.mem_cons, List.not_mem_nil, or_false] at hm
  rcases hm with hm | hm | hm <;> cases hm
  · exact pow_lies h1
  · exact ⟨_, _, b1⟩
  · exact ⟨_, _, b2⟩
end Go.Proofs.YtpiicncihccheaaDoor
