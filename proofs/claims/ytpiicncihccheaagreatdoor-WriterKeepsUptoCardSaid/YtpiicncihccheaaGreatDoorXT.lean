/- A law's contract where tables of the program's lie in memory. -/
import Derived.Test.YtpiicncihccheaaGreatDoorXL
namespace Go.XW
open Go.RowKit
/-- The blocks that a call finds, and some names for nothing. -/
def froT (W : World) (n : Nat) : Fro := ⟨fun g => W.heap[g]?, fun k => if k < n then some none else none⟩
theorem froT_le (W : World) (n : Nat) : FLe (froOf W) (froT W n) := ⟨fun _ _ h => h, fun _ _ h => by cases h⟩
def tabH : Nat → List (Nat × List Value) → Hp
  | _, [] => []
  | n, (g, vs) :: r => (n, .tab g vs) :: tabH (n + 1) r
theorem tabH_mem : ∀ {ts : List (Nat × List Value)} {n k : Nat} {c : HO}, (k, c) ∈ tabH n ts → n ≤ k ∧ k < n + ts.length ∧ ∃ g vs, (g, vs) ∈ ts ∧ c = .tab g vs
  | [], n, k, c, h => by simp [tabH] at h
  | (g, vs) :: r, n, k, c, h => by
    rcases List.mem_cons.1 h with h | h
    · cases h; exact ⟨Nat.le_refl _, by simp, g, vs, by simp, rfl⟩
    · obtain ⟨h1, h2, g', vs', h3, h4⟩ := tabH_mem h
      exact ⟨by omega, by simp only [List.length_cons]; omega, g', vs', List.mem_cons_of_mem _ h3, h4⟩
theorem tabH_nodup : ∀ (ts : List (Nat × List Value)) (n : Nat), ((tabH n ts).map Prod.fst).Nodup
  | [], n => by simp [tabH]
  | (g, vs) :: r, n => by
    simp only [tabH, List.map_cons, List.nodup_cons]
    refine ⟨fun h => ?_, tabH_nodup r (n + 1)⟩
    obtain ⟨⟨k, c⟩, h1, h2⟩ := List.mem_map.1 h
    have := (tabH_mem h1).1
    dsimp only at h2
    omega
theorem Sim.tabs (W : World) (ts : List (Nat × List Value)) (h : ∀ g vs, (g, vs) ∈ ts → ∃ t fr, W.heap[g]? = some (.cells vs.toArray t fr)) : Sim W (froT W ts.length) (tabH 0 ts) W where
  below := Below.refl _ _
  fro := fun _ _ h => h
  adr := fun k g tot h => by unfold froT at h; dsimp only at h; split at h <;> cases h
  inj := fun k k' g t t' h => by unfold froT at h; dsimp only at h; split at h <;> cases h
  fresh := ⟨ts.length, fun k hk => by unfold froT; dsimp only; rw [if_neg (by omega)]⟩
  nodup := tabH_nodup ts 0
  own := fun k c hc => by
    obtain ⟨h1, h2, g, vs, h3, rfl⟩ := tabH_mem hc
    obtain ⟨t, fr, h4⟩ := h g vs h3
    exact ⟨by unfold froT; dsimp only; rw [if_pos (by omega)], t, fr, h4⟩
  typ := fun k g tot T h => by unfold froT at h; dsimp only at h; split at h <;> cases h
/-- A law's contract: it answers true, and lays nothing on what it found. -/
theorem VCalls.lawT {P : Program} {f : FuncId} {args : List V} {args' : Array Value} {W : World} (ts : List (Nat × List Value)) (h : ∀ g vs, (g, vs) ∈ ts → ∃ t fr, W.heap[g]? = some (.cells vs.toArray t fr))
    (hc : VCalls P f args (tabH 0 ts) fun v _ => v = .v (.bool true)) (hr : RepL (froOf W) args args'.toList) :
    Calls P f args' W fun e W' => e = .returned (.bool true) ∧ Below W.heap.size W W' := by
  refine (hc.run W _ args' W (Sim.tabs W ts h) (hr.mono (froT_le W _))).mono fun e W' hb => ?_
  cases e with
  | returned u =>
    obtain ⟨F', h', _, hs, v, hv, rfl⟩ := hb
    refine ⟨?_, hs.below⟩
    cases hv; rfl
  | panicked c => obtain ⟨F', h', _, _, hf⟩ := hb; exact hf.elim
  | outgrown => exact hb.elim
/-- A block, cell by cell. -/
theorem block_of_cells {W : World} {g : Nat} {cs : Array Value} {t : TypeId} {fr : Nat × Nat} {vs : List Value} (h : W.heap[g]? = some (.cells cs t fr)) (hl : cs.size = vs.length) (hc : ∀ j, j < vs.length → W.cell? ⟨g, j, none⟩ = vs[j]?) : W.heap[g]? = some (.cells vs.toArray t fr) := by
  rw [h]
  have : cs = vs.toArray := by
    apply Array.ext (by simpa using hl)
    intro j h1 h2
    have h3 := hc j (by simpa using h2)
    unfold World.cell? at h3
    rw [h] at h3
    have h4 : cs[j]? = vs[j]? := h3
    rw [Array.getElem?_eq_getElem h1, List.getElem?_eq_getElem (by simpa using h2)] at h4
    simpa using Option.some.inj h4
  rw [this]
end Go.XW
