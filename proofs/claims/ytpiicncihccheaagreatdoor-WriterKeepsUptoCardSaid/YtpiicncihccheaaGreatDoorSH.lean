/- Contracts of the library, taken over into views: utf8.ValidString, strings.Repeat. -/
import Derived.Test.YtpiicncihccheaaGreatDoorSL
import Derived.Test.YtpiicncihccheaaGreatDoorProg
import Derived.Test.YtpiicncihccheaaGreatDoorU0
import Derived.Test.YtpiicncihccheaaGreatDoorM1
import Derived.Test.YtpiicncihccheaaGreatDoorXH
import Derived.Shelf.Unicode.ValidAny
import Derived.Lib.LaidU8T
import Derived.Shelf.Strings.Repeat
namespace Go.Proofs.YtpiicncihccheaaGreatDoor
open Go.XW Go.XW.DU Go.Lib Go.XW.U Go.Shelf Go.RowKit
/- "hallmark/utf.Valid" -/
def c59 : S :=
  (.hook 0 (.op (some 2) (.p (.mv (.const (.bool false))))
  (.hook 1 (.op (some 3) (.p (.mv (.tmp 0)))
  (.op (some 4) (.w (.call 99 [(.tmp 3)]))
  (.op (some 2) (.p (.mv (.tmp 4)))
  .ret))))))
theorem k59 : compF Tryz.prog 59 = some (c59, [(.t 2)], 5) := by kernel_rfl
/-- The decoder's tables lie there. -/
def firstVs : List Value := (List.range 256).map fun c => .int .u8 (firstT c)
def acceptNs : List Nat := (List.range 16).flatMap fun i => [accLo i, accHi i]
def acceptVs : List Value := acceptNs.map fun n => .int .u8 ((n : Nat) : Int)
def Tabs (h : Hp) : Prop := ∃ k0 k1, (k0, HO.tab 0 firstVs) ∈ h ∧ (k1, HO.tab 1 acceptVs) ∈ h
theorem Tabs.cons {h : Hp} (x : Nat × HO) (ht : Tabs h) : Tabs (x :: h) := let ⟨a, b, c, d⟩ := ht; ⟨a, b, List.mem_cons_of_mem _ c, List.mem_cons_of_mem _ d⟩
theorem accept_at : ∀ i : Fin 16, acceptNs[2 * i.val]? = some (accLo i.val) ∧ acceptNs[2 * i.val + 1]? = some (accHi i.val) := by decide +kernel
theorem Tabs.utf8 {h : Hp} (ht : Tabs h) {base : World} {F : Fro} {w : World} (hs : Sim base F h w) : Lib.Utf8Tabs 0 1 w := by
  obtain ⟨k0, k1, h0, h1⟩ := ht
  obtain ⟨_, t, fr, hF⟩ := hs.own _ _ h0
  obtain ⟨_, t1, fr1, hF1⟩ := hs.own _ _ h1
  have g0 := hs.fro 0 _ hF
  have g1 := hs.fro 1 _ hF1
  refine ⟨fun c hc => ?_, fun i hi => ⟨?_, ?_⟩⟩
  · rw [XW.cell_of_heap g0]
    simp [firstVs, hc]
  · rw [XW.cell_of_heap g1]
    have := (accept_at ⟨i, hi⟩).1
    dsimp only at this
    simp [acceptVs, this]
  · rw [XW.cell_of_heap g1]
    have := (accept_at ⟨i, hi⟩).2
    dsimp only at this
    simp [acceptVs, this]
def laysValid_ren : Go.Shelf.Ren := ⟨fun | 196 => 99 | 259 => 123 | n => n, fun | 9 => 9 | 4 => 4 | 3 => 3 | 5 => 5 | 12 => 12 | 119 => 211 | 0 => 0 | 46 => 183 | 139 => 214 | 138 => 213 | 53 => 225 | n => n, fun | 3 => 0 | 4 => 1 | n => n⟩
theorem laysValid : Go.Proofs.Lays.n196 Tryz.prog laysValid_ren := {
  mixed := by kernel_rfl
  f196 := Tryz.func99.trans (congrArg some (by kernel_rfl))
  f259 := Tryz.func123.trans (congrArg some (by kernel_rfl))
  t0 := Tryz.underlying0
  a0 := Tryz.isAgg0
  z0 := Tryz.sizeOf0
  v0 := Tryz.zeroValue0
  t3 := Tryz.underlying3
  a3 := Tryz.isAgg3
  z3 := Tryz.sizeOf3
  v3 := Tryz.zeroValue3
  t4 := Tryz.underlying4
  a4 := Tryz.isAgg4
  z4 := Tryz.sizeOf4
  v4 := Tryz.zeroValue4
  t5 := Tryz.underlying5
  a5 := Tryz.isAgg5
  z5 := Tryz.sizeOf5
  v5 := Tryz.zeroValue5
  t9 := Tryz.underlying9
  a9 := Tryz.isAgg9
  z9 := Tryz.sizeOf9
  v9 := Tryz.zeroValue9
  t12 := Tryz.underlying12
  a12 := Tryz.isAgg12
  z12 := Tryz.sizeOf12
  v12 := Tryz.zeroValue12
  t46 := Tryz.underlying183
  a46 := Tryz.isAgg183
  z46 := Tryz.sizeOf183
  v46 := Tryz.zeroValue183
  t53 := Tryz.underlying225
  a53 := Tryz.isAgg225
  z53 := Tryz.sizeOf225
  v53 := Tryz.zeroValue225
  t119 := Tryz.underlying211
  a119 := Tryz.isAgg211
  z119 := Tryz.sizeOf211
  t138 := Tryz.underlying213
  a138 := Tryz.isAgg213
  z138 := Tryz.sizeOf213
  v138 := Tryz.zeroValue213
  t139 := Tryz.underlying214
  a139 := Tryz.isAgg214
  z139 := Tryz.sizeOf214
  v139 := Tryz.zeroValue214
  g3 := by kernel_rfl
  g4 := by kernel_rfl }

def laysRepeat_ren : Go.Shelf.Ren := ⟨fun | 105 => 140 | 212 => 149 | 99 => 150 | 165 => 151 | 166 => 28 | 170 => 152 | 169 => 27 | 263 => 164 | 264 => 165 | 206 => 166 | 240 => 65 | 241 => 167 | 276 => 104 | 277 => 180 | n => n, fun | 9 => 9 | 3 => 3 | 4 => 4 | 20 => 20 | 0 => 0 | 46 => 183 | 109 => 235 | 5 => 5 | 72 => 74 | 76 => 81 | 51 => 250 | 146 => 251 | 53 => 225 | 148 => 253 | 70 => 71 | 37 => 72 | 75 => 80 | 127 => 117 | 164 => 186 | 80 => 78 | n => n, fun | n => n⟩
theorem laysRepeat : Go.Proofs.Lays.n105 Tryz.prog laysRepeat_ren := {
  mixed := by kernel_rfl
  f99 := Tryz.func150.trans (congrArg some (by kernel_rfl))
  f105 := Tryz.func140.trans (congrArg some (by kernel_rfl))
  f165 := Tryz.func151.trans (congrArg some (by kernel_rfl))
  f166 := Tryz.func28.trans (congrArg some (by kernel_rfl))
  f169 := Tryz.func27.trans (congrArg some (by kernel_rfl))
  f170 := Tryz.func152.trans (congrArg some (by kernel_rfl))
  f206 := Tryz.func166.trans (congrArg some (by kernel_rfl))
  f212 := Tryz.func149.trans (congrArg some (by kernel_rfl))
  f240 := Tryz.func65.trans (congrArg some (by kernel_rfl))
  f241 := Tryz.func167.trans (congrArg some (by kernel_rfl))
  f263 := Tryz.func164.trans (congrArg some (by kernel_rfl))
  f264 := Tryz.func165.trans (congrArg some (by kernel_rfl))
  f276 := Tryz.func104.trans (congrArg some (by kernel_rfl))
  f277 := Tryz.func180.trans (congrArg some (by kernel_rfl))
  t0 := Tryz.underlying0
  a0 := Tryz.isAgg0
  z0 := Tryz.sizeOf0
  v0 := Tryz.zeroValue0
  t3 := Tryz.underlying3
  a3 := Tryz.isAgg3
  z3 := Tryz.sizeOf3
  v3 := Tryz.zeroValue3
  t4 := Tryz.underlying4
  a4 := Tryz.isAgg4
  z4 := Tryz.sizeOf4
  v4 := Tryz.zeroValue4
  t5 := Tryz.underlying5
  a5 := Tryz.isAgg5
  z5 := Tryz.sizeOf5
  v5 := Tryz.zeroValue5
  t9 := Tryz.underlying9
  a9 := Tryz.isAgg9
  z9 := Tryz.sizeOf9
  v9 := Tryz.zeroValue9
  t20 := Tryz.underlying20
  a20 := Tryz.isAgg20
  z20 := Tryz.sizeOf20
  v20 := Tryz.zeroValue20
  t37 := Tryz.underlying72
  a37 := Tryz.isAgg72
  z37 := Tryz.sizeOf72
  v37 := Tryz.zeroValue72
  t46 := Tryz.underlying183
  a46 := Tryz.isAgg183
  z46 := Tryz.sizeOf183
  v46 := Tryz.zeroValue183
  t51 := Tryz.underlying250
  a51 := Tryz.isAgg250
  z51 := Tryz.sizeOf250
  v51 := Tryz.zeroValue250
  t53 := Tryz.underlying225
  a53 := Tryz.isAgg225
  z53 := Tryz.sizeOf225
  v53 := Tryz.zeroValue225
  t70 := Tryz.underlying71
  a70 := Tryz.isAgg71
  z70 := Tryz.sizeOf71
  v70 := Tryz.zeroValue71
  t72 := Tryz.underlying74
  a72 := Tryz.isAgg74
  z72 := Tryz.sizeOf74
  v72 := Tryz.zeroValue74
  t75 := Tryz.underlying80
  a75 := Tryz.isAgg80
  z75 := Tryz.sizeOf80
  v75 := Tryz.zeroValue80
  t76 := Tryz.underlying81
  a76 := Tryz.isAgg81
  z76 := Tryz.sizeOf81
  v76 := Tryz.zeroValue81
  t109 := Tryz.underlying235
  a109 := Tryz.isAgg235
  z109 := Tryz.sizeOf235
  v109 := Tryz.zeroValue235
  t127 := Tryz.underlying117
  a127 := Tryz.isAgg117
  z127 := Tryz.sizeOf117
  v127 := Tryz.zeroValue117
  t146 := Tryz.underlying251
  a146 := Tryz.isAgg251
  z146 := Tryz.sizeOf251
  v146 := Tryz.zeroValue251
  t148 := Tryz.underlying253
  a148 := Tryz.isAgg253
  z148 := Tryz.sizeOf253
  v148 := Tryz.zeroValue253
  t164 := Tryz.underlying186
  a164 := Tryz.isAgg186
  z164 := Tryz.sizeOf186
  v164 := Tryz.zeroValue186 }


theorem validString_calls (l : List UInt8) (h : Hp) (ht : Tabs h) (hl : l.length < 2 ^ 40) : VCalls Tryz.prog 99 [vstr l] h (fun v h' => v = vbool (validD l) ∧ h' = h) :=
  VCalls.shelf (us := [.string ⟨⟨l⟩⟩]) (by kernel_rfl) fun base F w hs => Any.utf8_ValidString laysValid ⟨⟨l⟩⟩ w (by show l.length ≤ _; omega) (ht.utf8 hs)
theorem repExtra : Builder.Extra Tryz.prog laysRepeat_ren := {
  sizeBuilder := by kernel_rfl
  liesBuilder := by kernel_rfl
  t5 := Tryz.underlying5
  a5 := Tryz.isAgg5
  z5 := Tryz.sizeOf5
  v5 := Tryz.zeroValue5
  infoByte := by kernel_rfl
  cellsByte := by kernel_rfl
  sizeByte := by kernel_rfl
  neB5 := by decide }
theorem repeat_calls (l : List UInt8) (n : Nat) (h : Hp) (hn : l.length * n ≤ 140737488355328) (hn2 : n ≤ 9223372036854775807) : VCalls Tryz.prog 140 [vstr l, int n] h (fun v h' => v = vstr (repeatL l n) ∧ h' = h) :=
  VCalls.shelf (us := [.string ⟨⟨l⟩⟩, .int .i64 n]) (by kernel_rfl) fun base F w hs => Any.strings_Repeat laysRepeat repExtra ⟨⟨l⟩⟩ n w hn2 hn
theorem utfValid_calls (l : List UInt8) (h : Hp) (ht : Tabs h) (hl : l.length < 2 ^ 40) : VCalls Tryz.prog 59 [vstr l] h (fun v h' => v = vbool (validD l) ∧ h' = h) := by
  refine xc k59 rfl ?_
  refine run ?_
  refine VCalls.use (validString_calls l h ht hl) ?_
  rintro _ _ ⟨rfl, rfl⟩
  refine run ?_
  exact retv ⟨rfl, rfl⟩
end Go.Proofs.YtpiicncihccheaaGreatDoor
