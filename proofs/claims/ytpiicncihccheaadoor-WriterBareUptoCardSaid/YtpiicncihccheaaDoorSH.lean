/- Contracts of the library, taken over into views: utf8.ValidString, strings.Repeat. -/
import Derived.Test.YtpiicncihccheaaDoorXH
import Derived.Test.YtpiicncihccheaaDoorProg
import Derived.Test.YtpiicncihccheaaDoorU0
import Derived.Test.YtpiicncihccheaaDoorM1
import Derived.Test.YtpiicncihccheaaDoorXH
import Derived.Shelf.Unicode.ValidAny
import Derived.Lib.LaidU8T
import Derived.Shelf.Strings.Repeat
namespace Go.Proofs.YtpiicncihccheaaDoor
open Go.XW Go.XW.DU Go.Lib Go.XW.U Go.Shelf Go.RowKit
/- "hallmark/utf.Valid" -/
def c49 : S :=
  (.hook 0 (.op (some 2) (.p (.mv (.const (.bool false))))
  (.hook 1 (.op (some 3) (.p (.mv (.tmp 0)))
  (.op (some 4) (.w (.call 65 [(.tmp 3)]))
  (.op (some 2) (.p (.mv (.tmp 4)))
  .ret))))))
theorem k49 : compF Tryd.prog 49 = some (c49, [(.t 2)], 5) := by kernel_rfl
/-- What lies is left by a call that lays on nothing. -/
theorem simBeneath {base : World} {F : Fro} {h : Hp} {w w' : World} (hs : Sim base F h w) (hb : Below w.heap.size w w') : Sim base F h w' := by
  have hle : base.heap.size ≤ w.heap.size := hs.below.size
  refine ⟨hs.below.trans (hb.mono hle), ?_, ?_, hs.inj, hs.fresh, hs.nodup, ?_, ?_⟩
  · intro g o hf
    have hh := hs.fro g o hf
    rw [hb.block g (Array.getElem?_eq_some_iff.1 hh).1]
    exact hh
  · intro k g tot hr
    obtain ⟨h1, h2⟩ := hs.adr k g tot hr
    exact ⟨h1, Nat.lt_of_lt_of_le h2 hb.size⟩
  · intro k c hc
    have h3 := hs.own k c hc
    cases c with
    | blk sz es =>
      rcases h3 with h3 | ⟨g, tot, us, t, fr, a, b⟩
      · exact .inl h3
      · refine .inr ⟨g, tot, us, t, fr, a, b.1, ?_, b.2.2⟩
        rw [hb.block g (hs.adr _ _ _ a).2]
        exact b.2.1
    | obj o =>
      obtain ⟨g, tot, a, b, d⟩ := h3
      refine ⟨g, tot, a, b, ?_⟩
      rw [hb.block g (hs.adr _ _ _ a).2]
      exact d
    | lp N f r =>
      obtain ⟨g, tot, tmps, a, b, d⟩ := h3
      refine ⟨g, tot, tmps, a, b, ?_⟩
      rw [hb.block g (hs.adr _ _ _ a).2]
      exact d
    | tab g vs => exact h3
  · intro k g tot T hr hT
    rw [shape_of_heap (hb.block g (hs.adr _ _ _ hr).2)]
    exact hs.typ k g tot T hr hT
theorem RepL.lit {F : Fro} : ∀ {us vs : List Value}, RepL F (us.map .v) vs → vs = us
  | [], _, h => by cases h; rfl
  | u :: us, _, h => by
    cases h with
    | cons _ v _ vs h1 h2 => rw [h1.lit, RepL.lit h2]
/-- A library's contract as one over views. -/
theorem VCalls.shelf {P : Program} {f : FuncId} {us : List Value} {h : Hp} {r : Value} {RP : List PanicEntry → Hp → Prop} (hok : okFn P f = true)
    (hc : ∀ base F w, Sim base F h w → Calls P f us.toArray w fun e w' => e = .returned r ∧ Below w.heap.size w w') : VCalls P f (us.map .v) h (fun v h' => v = .v r ∧ h' = h) RP := by
  refine ⟨hok, fun base F args' w hs ha => ?_⟩
  have he : args' = us.toArray := by
    have := RepL.lit ha
    cases args'; simp_all
  subst he
  refine (hc base F w hs).mono ?_
  rintro e w' ⟨rfl, hb⟩
  exact ⟨F, h, FLe.refl F, simBeneath hs hb, .v r, .v r, rfl, rfl⟩
/-- The decoder's tables lie there. -/
def firstVs : List Value := (List.range 256).map fun c => .int .u8 (firstT c)
def acceptNs : List Nat := (List.range 16).flatMap fun i => [accLo i, accHi i]
def acceptVs : List Value := acceptNs.map fun n => .int .u8 ((n : Nat) : Int)
def Tabs (h : Hp) : Prop := ∃ k0 k1, (k0, HO.tab 0 firstVs) ∈ h ∧ (k1, HO.tab 1 acceptVs) ∈ h
theorem Tabs.cons {h : Hp} (x : Nat × HO) (ht : Tabs h) : Tabs (x :: h) := let ⟨a, b, c, d⟩ := ht; ⟨a, b, List.mem_cons_of_mem _ c, List.mem_cons_of_mem _ d⟩
theorem accept_at : ∀ i : Fin 16, acceptNs[2 * i.val]? = some (accLo i.val) ∧ acceptNs[2 * i.val + 1]? = some (accHi i.val) := by decide +kernel
theorem Tabs.utf8 {h : Hp} (ht : Tabs h) {base : World} {F : Fro} {w : World} (hs : Sim base F h w) : Lib.Utf8Tabs 0 1 w := by
  obtain ⟨k0, k1, h0, h1⟩ := ht
  obtain ⟨_, t, fr, hF⟩ := hs.own _ _ h0
  obtain ⟨_, t1, fr1, hF1⟩ := hs.own _ _ h1
  have g0 := hs.fro 0 _ hF
  have g1 := hs.fro 1 _ hF1
  refine ⟨fun c hc => ?_, fun i hi => ⟨?_, ?_⟩⟩
  · rw [XW.cell_of_heap g0]
    simp [firstVs, hc]
  · rw [XW.cell_of_heap g1]
    have := (accept_at ⟨i, hi⟩).1
    dsimp only at this
    simp [acceptVs, this]
  · rw [XW.cell_of_heap g1]
    have := (accept_at ⟨i, hi⟩).2
    dsimp only at this
    simp [acceptVs, this]
def laysValid_ren : Go.Shelf.Ren := ⟨fun | 196 => 65 | 259 => 79 | n => n, fun | 9 => 9 | 4 => 4 | 3 => 3 | 5 => 5 | 12 => 12 | 119 => 98 | 0 => 0 | 46 => 86 | 139 => 101 | 138 => 100 | 53 => 106 | n => n, fun | 3 => 0 | 4 => 1 | n => n⟩
theorem laysValid : Go.Proofs.Lays.n196 Tryd.prog laysValid_ren := {
  mixed := by kernel_rfl
  f196 := Tryd.func65.trans (congrArg some (by kernel_rfl))
  f259 := Tryd.func79.trans (congrArg some (by kernel_rfl))
  t0 := Tryd.underlying0
  a0 := Tryd.isAgg0
  z0 := Tryd.sizeOf0
  v0 := Tryd.zeroValue0
  t3 := Tryd.underlying3
  a3 := Tryd.isAgg3
  z3 := Tryd.sizeOf3
  v3 := Tryd.zeroValue3
  t4 := Tryd.underlying4
  a4 := Tryd.isAgg4
  z4 := Tryd.sizeOf4
  v4 := Tryd.zeroValue4
  t5 := Tryd.underlying5
  a5 := Tryd.isAgg5
  z5 := Tryd.sizeOf5
  v5 := Tryd.zeroValue5
  t9 := Tryd.underlying9
  a9 := Tryd.isAgg9
  z9 := Tryd.sizeOf9
  v9 := Tryd.zeroValue9
  t12 := Tryd.underlying12
  a12 := Tryd.isAgg12
  z12 := Tryd.sizeOf12
  v12 := Tryd.zeroValue12
  t46 := Tryd.underlying86
  a46 := Tryd.isAgg86
  z46 := Tryd.sizeOf86
  v46 := Tryd.zeroValue86
  t53 := Tryd.underlying106
  a53 := Tryd.isAgg106
  z53 := Tryd.sizeOf106
  v53 := Tryd.zeroValue106
  t119 := Tryd.underlying98
  a119 := Tryd.isAgg98
  z119 := Tryd.sizeOf98
  t138 := Tryd.underlying100
  a138 := Tryd.isAgg100
  z138 := Tryd.sizeOf100
  v138 := Tryd.zeroValue100
  t139 := Tryd.underlying101
  a139 := Tryd.isAgg101
  z139 := Tryd.sizeOf101
  v139 := Tryd.zeroValue101
  g3 := by kernel_rfl
  g4 := by kernel_rfl }

def laysRepeat_ren : Go.Shelf.Ren := ⟨fun | 105 => 91 | 212 => 99 | 99 => 100 | 165 => 101 | 166 => 41 | 170 => 102 | 169 => 34 | 263 => 105 | 264 => 106 | 206 => 107 | 240 => 59 | 241 => 108 | 276 => 71 | 277 => 109 | n => n, fun | 9 => 9 | 3 => 3 | 4 => 4 | 20 => 20 | 0 => 0 | 46 => 86 | 109 => 127 | 5 => 5 | 72 => 54 | 76 => 65 | 51 => 121 | 146 => 131 | 53 => 106 | 148 => 133 | 70 => 51 | 37 => 52 | 75 => 64 | 127 => 76 | 164 => 87 | 80 => 58 | n => n, fun | n => n⟩
theorem laysRepeat : Go.Proofs.Lays.n105 Tryd.prog laysRepeat_ren := {
  mixed := by kernel_rfl
  f99 := Tryd.func100.trans (congrArg some (by kernel_rfl))
  f105 := Tryd.func91.trans (congrArg some (by kernel_rfl))
  f165 := Tryd.func101.trans (congrArg some (by kernel_rfl))
  f166 := Tryd.func41.trans (congrArg some (by kernel_rfl))
  f169 := Tryd.func34.trans (congrArg some (by kernel_rfl))
  f170 := Tryd.func102.trans (congrArg some (by kernel_rfl))
  f206 := Tryd.func107.trans (congrArg some (by kernel_rfl))
  f212 := Tryd.func99.trans (congrArg some (by kernel_rfl))
  f240 := Tryd.func59.trans (congrArg some (by kernel_rfl))
  f241 := Tryd.func108.trans (congrArg some (by kernel_rfl))
  f263 := Tryd.func105.trans (congrArg some (by kernel_rfl))
  f264 := Tryd.func106.trans (congrArg some (by kernel_rfl))
  f276 := Tryd.func71.trans (congrArg some (by kernel_rfl))
  f277 := Tryd.func109.trans (congrArg some (by kernel_rfl))
  t0 := Tryd.underlying0
  a0 := Tryd.isAgg0
  z0 := Tryd.sizeOf0
  v0 := Tryd.zeroValue0
  t3 := Tryd.underlying3
  a3 := Tryd.isAgg3
  z3 := Tryd.sizeOf3
  v3 := Tryd.zeroValue3
  t4 := Tryd.underlying4
  a4 := Tryd.isAgg4
  z4 := Tryd.sizeOf4
  v4 := Tryd.zeroValue4
  t5 := Tryd.underlying5
  a5 := Tryd.isAgg5
  z5 := Tryd.sizeOf5
  v5 := Tryd.zeroValue5
  t9 := Tryd.underlying9
  a9 := Tryd.isAgg9
  z9 := Tryd.sizeOf9
  v9 := Tryd.zeroValue9
  t20 := Tryd.underlying20
  a20 := Tryd.isAgg20
  z20 := Tryd.sizeOf20
  v20 := Tryd.zeroValue20
  t37 := Tryd.underlying52
  a37 := Tryd.isAgg52
  z37 := Tryd.sizeOf52
  v37 := Tryd.zeroValue52
  t46 := Tryd.underlying86
  a46 := Tryd.isAgg86
  z46 := Tryd.sizeOf86
  v46 := Tryd.zeroValue86
  t51 := Tryd.underlying121
  a51 := Tryd.isAgg121
  z51 := Tryd.sizeOf121
  v51 := Tryd.zeroValue121
  t53 := Tryd.underlying106
  a53 := Tryd.isAgg106
  z53 := Tryd.sizeOf106
  v53 := Tryd.zeroValue106
  t70 := Tryd.underlying51
  a70 := Tryd.isAgg51
  z70 := Tryd.sizeOf51
  v70 := Tryd.zeroValue51
  t72 := Tryd.underlying54
  a72 := Tryd.isAgg54
  z72 := Tryd.sizeOf54
  v72 := Tryd.zeroValue54
  t75 := Tryd.underlying64
  a75 := Tryd.isAgg64
  z75 := Tryd.sizeOf64
  v75 := Tryd.zeroValue64
  t76 := Tryd.underlying65
  a76 := Tryd.isAgg65
  z76 := Tryd.sizeOf65
  v76 := Tryd.zeroValue65
  t109 := Tryd.underlying127
  a109 := Tryd.isAgg127
  z109 := Tryd.sizeOf127
  v109 := Tryd.zeroValue127
  t127 := Tryd.underlying76
  a127 := Tryd.isAgg76
  z127 := Tryd.sizeOf76
  v127 := Tryd.zeroValue76
  t146 := Tryd.underlying131
  a146 := Tryd.isAgg131
  z146 := Tryd.sizeOf131
  v146 := Tryd.zeroValue131
  t148 := Tryd.underlying133
  a148 := Tryd.isAgg133
  z148 := Tryd.sizeOf133
  v148 := Tryd.zeroValue133
  t164 := Tryd.underlying87
  a164 := Tryd.isAgg87
  z164 := Tryd.sizeOf87
  v164 := Tryd.zeroValue87 }


theorem validString_calls (l : List UInt8) (h : Hp) (ht : Tabs h) (hl : l.length < 2 ^ 40) : VCalls Tryd.prog 65 [vstr l] h (fun v h' => v = vbool (validD l) ∧ h' = h) :=
  VCalls.shelf (us := [.string ⟨⟨l⟩⟩]) (by kernel_rfl) fun base F w hs => Any.utf8_ValidString laysValid ⟨⟨l⟩⟩ w (by show l.length ≤ _; omega) (ht.utf8 hs)
theorem repExtra : Builder.Extra Tryd.prog laysRepeat_ren := {
  sizeBuilder := by kernel_rfl
  liesBuilder := by kernel_rfl
  t5 := Tryd.underlying5
  a5 := Tryd.isAgg5
  z5 := Tryd.sizeOf5
  v5 := Tryd.zeroValue5
  infoByte := by kernel_rfl
  cellsByte := by kernel_rfl
  sizeByte := by kernel_rfl
  neB5 := by decide }
theorem repeat_calls (l : List UInt8) (n : Nat) (h : Hp) (hn : l.length * n ≤ 140737488355328) (hn2 : n ≤ 9223372036854775807) : VCalls Tryd.prog 91 [vstr l, int n] h (fun v h' => v = vstr (repeatL l n) ∧ h' = h) :=
  VCalls.shelf (us := [.string ⟨⟨l⟩⟩, .int .i64 n]) (by kernel_rfl) fun base F w hs => Any.strings_Repeat laysRepeat repExtra ⟨⟨l⟩⟩ n w hn2 hn
theorem utfValid_calls (l : List UInt8) (h : Hp) (ht : Tabs h) (hl : l.length < 2 ^ 40) : VCalls Tryd.prog 49 [vstr l] h (fun v h' => v = vbool (validD l) ∧ h' = h) := by
  refine xc k49 rfl ?_
  refine run ?_
  refine VCalls.use (validString_calls l h ht hl) ?_
  rintro _ _ ⟨rfl, rfl⟩
  refine run ?_
  exact retv ⟨rfl, rfl⟩
end Go.Proofs.YtpiicncihccheaaDoor
