/- Loads, stores, what is made, appends, calls: shown against the machine. -/
import Derived.Test.YtpiicncihccheaaGreatDoorX8
namespace Go.XW
open Go.RowKit

theorem cell_of_heap {w : World} {g o : Nat} {us : Array Value} {t : TypeId} {fr : Nat × Nat} (h : w.heap[g]? = some (.cells us t fr)) : w.cell? ⟨g, o, none⟩ = us[o]? := by simp [World.cell?, h]

section
variable {P : Program}
theorem run_load_agg {t : TypeId} {sz : Nat} (ht : lay P t = some (true, sz)) {w : World} {g off : Nat} {us : Array Value} {t' : TypeId} {fr : Nat × Nat} (hg : w.heap[g]? = some (.cells us t' fr)) (hl : sz ≤ us.size - off) :
    (Instr.loadAt t (.pointer (some ⟨g, off, none⟩))).run P w = .ok (.agg ((us.toList.drop off).take sz).toArray) w := by
  obtain ⟨i1, i2, i, i3, i4⟩ := run_isAgg ht w
  have hlen : ((us.toList.drop off).take sz).length = sz := by simp; omega
  have hl2 : (loadCells ⟨g, off, none⟩ ((us.toList.drop off).take sz).length).run P w = .ok ((us.toList.drop off).take sz).toArray w :=
    run_loadCells_list (P := P) w ⟨g, off, none⟩ _ (fun j v hv => by
      rw [Addr.add_mid, cell_of_heap hg]
      have hj : j < sz := by
        have := (List.getElem?_eq_some_iff.1 hv).1
        simp at this; omega
      rw [List.getElem?_take_of_lt hj, List.getElem?_drop] at hv
      simpa using hv)
  rw [hlen] at hl2
  simp [Instr.loadAt, Instr.sureAddr, loadVar, i1, i2, hl2]

theorem run_load_one {t : TypeId} {sz : Nat} (ht : lay P t = some (false, sz)) {w : World} {g off : Nat} {us : Array Value} {t' : TypeId} {fr : Nat × Nat} {u : Value} (hg : w.heap[g]? = some (.cells us t' fr)) (hu : us.toList[off]? = some u) :
    (Instr.loadAt t (.pointer (some ⟨g, off, none⟩))).run P w = .ok u w := by
  obtain ⟨i1, i2, i, i3, i4⟩ := run_isAgg ht w
  have hc : w.cell? ⟨g, off, none⟩ = some u := by rw [cell_of_heap hg]; simpa using hu
  simp [Instr.loadAt, Instr.sureAddr, loadVar, i1, hc]

/-- A value read at a place whose cells are seen. -/
theorem valK_real {t : TypeId} {b : Bool} {sz : Nat} (ht : lay P t = some (b, sz)) {cs : List V} {K : V → Prop} (h : valK b sz cs K) :
    ∃ v, K v ∧ ∀ (F : Fro) (w : World) (g off : Nat) (us : Array Value) (t' : TypeId) (fr : Nat × Nat), w.heap[g]? = some (.cells us t' fr) → RepP F cs (us.toList.drop off) → ∃ u, (Instr.loadAt t (.pointer (some ⟨g, off, none⟩))).run P w = .ok u w ∧ Rep F v u := by
  unfold valK at h
  cases b with
  | true =>
    obtain ⟨h1, h2⟩ := takeK_get h
    refine ⟨_, h2, fun F w g off us t' fr hg hp => ?_⟩
    have hl := hp.len
    exact ⟨_, run_load_agg ht hg (by simp at hl; omega), .agg _ _ (by simpa using hp.take_le h1)⟩
  | false =>
    dsimp only at h
    split at h
    · refine ⟨_, h, fun F w g off us t' fr hg hp => ?_⟩
      obtain ⟨u, hu, hr2⟩ := hp.get (i := 0) (by simp; rfl)
      exact ⟨u, run_load_one ht hg (by simpa using hu), hr2⟩
    · exact h.elim

theorem Sim.find {base : World} {F : Fro} {h1 h2 : Hp} {w : World} {k s i : Nat} {es : List (List V)} {e : List V} (hs : Sim base F (h1 ++ (k, .blk s es) :: h2) w) (he : es[i]? = some e) {g tot : Nat} (hr : F.r k = some (some (g, tot))) :
    ∃ us t fr, w.heap[g]? = some (.cells us t fr) ∧ NoFr us fr ∧ us.size = tot ∧ RepR F s es us.toList ∧ RepP F e (us.toList.drop (i * s)) ∧ e.length = s := by
  rcases hs.out.2.2 with ⟨_, h⟩ | ⟨g', tot', us, t, fr, a, b, c, d, z, y⟩
  · subst h; simp at he
  · rw [hr] at a
    cases a
    obtain ⟨k1, k2⟩ := y.at i e he
    exact ⟨us, t, fr, c, d, z, y, k1, k2⟩

theorem foldl_push : ∀ (ns : List Int) (s : ByteArray), ns.foldl (fun r n => r.push (UInt8.ofNat n.toNat)) s = ⟨(s.data.toList ++ ns.map fun n => UInt8.ofNat n.toNat).toArray⟩
  | [], s => by simp
  | n :: ns, s => by
    rw [List.foldl_cons, foldl_push ns]
    simp [ByteArray.push]

theorem conv_text {w : World} {s t e : TypeId} {ad : Addr} {n c : Nat} {ns : List Int} (hsu : P.underlying s = some (.slice e)) (ht : P.underlying t = some .string) (he : P.underlying e = some (.int .u8)) (hn : ns.length = n) (hc : ∀ (j : Nat) v, (ns.map (Value.int .u8))[j]? = some v → w.cell? (ad.add j) = some v) :
    (convert s t (.slice (some ad) n c)).run P w = .ok (str (ofNums ns)) w := by
  have hl := run_loadCells_list (P := P) w ad (ns.map (Value.int .u8)) hc
  rw [List.length_map, hn] at hl
  have := run_bytesToString (P := P) w ad n c ns hl
  rw [foldl_push] at this
  simp only [convert, Sem.run_bind, run_underlying hsu, run_underlying ht, run_underlying he, Result.andThen_ok, this]
  simp [ofNums, ByteArray.empty, ByteArray.emptyWithCapacity]
  rfl

theorem rInts_length (k : IntKind) (ns : List Int) : (rInts k ns).length = ns.length := by simp [rInts]
theorem RepR.ints {F : Fro} {k : IntKind} : ∀ {ns : List Int} {us : List Value}, RepR F 1 (rInts k ns) us → us.take ns.length = ns.map (Value.int k)
  | [], us, _ => by simp
  | n :: ns, us, h => by
    cases h with
    | cons _ _ _ _ h1 h2 h3 =>
      cases h2 with
      | cons _ u _ us h4 h5 =>
        have := h4.lit
        subst this
        simpa using RepR.ints h3

theorem row_text {F : Fro} {w : World} {s t e : TypeId} {g off n c : Nat} {us : Array Value} {t' : TypeId} {fr : Nat × Nat} {ns : List Int} (hsu : P.underlying s = some (.slice e)) (ht : P.underlying t = some .string) (he : P.underlying e = some (.int .u8)) (hg : w.heap[g]? = some (.cells us t' fr)) (hrr : RepR F 1 (rInts .u8 ns) (us.toList.drop off)) (hn : n = ns.length) :
    (convert s t (.slice (some ⟨g, off, none⟩) n c)).run P w = .ok (str (ofNums ns)) w := by
  subst hn
  have hints := hrr.ints
  refine conv_text hsu ht he rfl (fun j v hv => ?_)
  rw [Addr.add_mid, cell_of_heap hg]
  rw [← hints] at hv
  have hj : j < ns.length := by
    have := (List.getElem?_eq_some_iff.1 hv).1
    rw [List.length_take] at this; omega
  rw [List.getElem?_take_of_lt hj, List.getElem?_drop] at hv
  simpa using hv

theorem nil_text {w : World} {s t e : TypeId} {a : Option Addr} {c : Nat} (hsu : P.underlying s = some (.slice e)) (ht : P.underlying t = some .string) (he : P.underlying e = some (.int .u8)) :
    (convert s t (.slice a 0 c)).run P w = .ok (str []) w := by
  cases a with
  | none =>
    simp only [convert, Sem.run_bind, run_underlying hsu, run_underlying ht, run_underlying he, Result.andThen_ok, Conv.bytesToString, Sem.run_pure]
    rfl
  | some ad => exact conv_text (ns := []) hsu ht he rfl (by simp)

theorem rInts_nil {k : IntKind} {ns : List Int} (h : ([] : List (List V)) = rInts k ns) : ns = [] := by
  have := congrArg List.length h
  rw [rInts_length] at this
  exact List.length_eq_zero_iff.1 (by simpa using this.symm)
end

section
variable {P : Program} {ρ : Operand → V} {σ : Operand → Option V} {h : Hp} {K : V → Prop} {o : Oper}

theorem read_of {v : V} (hx : ∀ base F w (ρ' : Operand → Value), Sim base F h w → (∀ x ∈ o.op.operands, Rep F (ρ x) (ρ' x)) → ∃ u, (execOp ρ' o).run P w = .ok (.value u) w ∧ Rep F v u) : VRead P o ρ h v := by
  intro base F w ρ' hs hr
  obtain ⟨u, h1, h2⟩ := hx base F w ρ' hs hr
  rw [h1]
  exact VOut.value hs h2 ⟨rfl, rfl⟩

theorem ovR_sound {p : OR} (hc : compR P o.op = some p) (hf : Fits σ ρ) (h0 : ovR p σ h K) : ∃ v, VRead P o ρ h v ∧ K v := by
  obtain ⟨dst, op, ty, pos, after, guard⟩ := o
  dsimp only at hc
  unfold compR at hc
  split at hc
  · rename_i t x
    split at hc
    · rename_i b sz hl
      cases hc
      obtain ⟨vx, h1, hz⟩ := on_get h0
      have hx := hf _ _ h1
      unfold ldK at hz
      split at hz
      · rename_i cs
        obtain ⟨v, hK, hv⟩ := valK_real hl hz
        refine ⟨v, read_of fun base F w ρ' hs hr => ?_, hK⟩
        have e1 := hr x (by simp [Op.operands]); rw [hx] at e1
        unfold execOp
        dsimp only
        generalize ρ' x = u at e1
        cases e1 with
        | adr _ g off vs t' fr hF hp =>
          obtain ⟨u, k1, k2⟩ := hv F w g off vs t' fr (hs.fro g _ hF) hp
          exact ⟨u, by rw [Sem.run_bind, k1]; rfl, k2⟩
      · rename_i s k i j
        obtain ⟨l1, es, l2, rfl, ⟨e, he, hz⟩⟩ := hz.open
        obtain ⟨h2, hz⟩ := skipK_get hz
        obtain ⟨v, hK, hv⟩ := valK_real hl hz
        refine ⟨v, read_of fun base F w ρ' hs hr => ?_, hK⟩
        have e1 := hr x (by simp [Op.operands]); rw [hx] at e1
        unfold execOp
        dsimp only
        generalize ρ' x = u at e1
        cases e1 with
        | ptr _ _ _ _ g tot hrk =>
          obtain ⟨us, t', fr, a, b', c, d, y, z⟩ := hs.find he hrk
          have := y.drop j
          rw [List.drop_drop] at this
          obtain ⟨u, k1, k2⟩ := hv F w g (i * s + j) us t' fr a this
          exact ⟨u, by rw [Sem.run_bind, k1]; rfl, k2⟩
      · rename_i g off
        obtain ⟨k, vs, hm, ⟨us, hus, hz⟩⟩ := hz.open
        obtain ⟨v, hK, hv⟩ := valK_real hl hz
        refine ⟨v, read_of fun base F w ρ' hs hr => ?_, hK⟩
        have e1 := hr x (by simp [Op.operands]); rw [hx] at e1
        unfold execOp
        dsimp only
        rw [e1.lit]
        obtain ⟨_, t', fr, hF⟩ := hs.own _ _ hm
        have hp : RepP F (us.map V.v) (vs.toArray.toList.drop off) := by
          have := (RepL.lits (F := F) us).toP
          rw [← hus] at this ⊢
          refine this.front ?_
          simp [List.take_take]
        obtain ⟨u, k1, k2⟩ := hv F w g off vs.toArray t' fr (hs.fro g _ hF) hp
        exact ⟨u, by rw [Sem.run_bind, k1]; rfl, k2⟩
      · exact hz.elim
    · cases hc
  · rename_i s t x
    split at hc
    · rename_i e hsu ht
      split at hc
      · rename_i he
        cases hc
        obtain ⟨vx, h1, hz⟩ := on_get h0
        have hx := hf _ _ h1
        unfold txtK at hz
        split at hz
        · rename_i es
          obtain ⟨ns, hes, hK⟩ := hz
          refine ⟨_, read_of fun base F w ρ' hs hr => ⟨str (ofNums ns), ?_, .v _⟩, hK⟩
          have e1 := hr x (by simp [Op.operands]); rw [hx] at e1
          unfold execOp
          dsimp only
          generalize ρ' x = u at e1
          cases e1 with
          | row0 _ a c =>
            have := rInts_nil hes
            subst this
            rw [Sem.run_bind, nil_text hsu ht he]; rfl
          | row _ _ g off n c vs t' fr hF hn hc hrr =>
            subst hes
            rw [Sem.run_bind, row_text hsu ht he (hs.fro g _ hF) hrr (by rw [hn, rInts_length])]; rfl
        · rename_i k off n
          obtain ⟨l1, es, l2, rfl, ⟨m, hm, ⟨hle, ⟨es', hes', ⟨ns, hns, hK⟩⟩⟩⟩⟩ := hz.open
          subst hm
          refine ⟨_, read_of fun base F w ρ' hs hr => ⟨str (ofNums ns), ?_, .v _⟩, hK⟩
          have e1 := hr x (by simp [Op.operands]); rw [hx] at e1
          unfold execOp
          dsimp only
          generalize ρ' x = u at e1
          have hlen : es'.length = n := by rw [← hes']; simp; omega
          have hnn : n = ns.length := by rw [← hlen, hns, rInts_length]
          cases e1 with
          | osl0 _ _ _ a =>
            have : ns = [] := List.length_eq_zero_iff.1 hnn.symm
            subst this
            rw [Sem.run_bind, nil_text hsu ht he]; rfl
          | osl _ _ _ _ c g tot hrk hnc htot hc =>
            rcases hs.out.2.2 with ⟨hv, hv2⟩ | ⟨g', tot', us, t', fr, a, b', c', d, z, y⟩
            · rw [hrk] at hv; cases hv
            · rw [hrk] at a
              cases a
              have h5 := (y.take (off + n)).drop off
              rw [hes', hns] at h5
              rw [Sem.run_bind, row_text hsu ht he c' h5 hnn]; rfl
        · refine ⟨_, read_of fun base F w ρ' hs hr => ⟨str [], ?_, .v _⟩, hz⟩
          have e1 := hr x (by simp [Op.operands]); rw [hx] at e1; have e1 := e1.lit
          unfold execOp
          dsimp only
          rw [e1, Sem.run_bind, nil_text hsu ht he]; rfl
        · exact hz.elim
      · cases hc
    · cases hc
  · cases hc
end
end Go.XW
