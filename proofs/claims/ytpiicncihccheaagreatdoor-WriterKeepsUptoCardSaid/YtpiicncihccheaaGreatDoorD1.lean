/- Walks of strings.Builder: what is written goes behind what stands there. -/
import Derived.Test.YtpiicncihccheaaGreatDoorD0
namespace Go.Proofs.YtpiicncihccheaaGreatDoor
open Go.XW Go.XW.DU
/- "(*strings.Builder).String" -/
def c27 : S :=
  (.hook 0 (.op (some 2) (.p (.mv (.const (.string ⟨#[]⟩))))
  (.hook 1 (.op (some 3) (.p (.mv (.tmp 0)))
  (.op (some 4) (.p (.nilc (.tmp 3)))
  (.op (some 5) (.p (.fad (.tmp 4) 1))
  (.op (some 6) (.r (.ld false 1 (.tmp 5)))
  (.op (some 7) (.x (.sdat (.tmp 6)))
  (.op (some 8) (.p (.mv (.tmp 0)))
  (.op (some 9) (.p (.nilc (.tmp 8)))
  (.op (some 10) (.p (.fad (.tmp 9) 1))
  (.op (some 11) (.r (.ld false 1 (.tmp 10)))
  (.op (some 12) (.p (.lenr (.tmp 11)))
  (.op (some 13) (.x (.ustr 5000 (.tmp 7) (.tmp 12)))
  (.op (some 2) (.p (.mv (.tmp 13)))
  .ret)))))))))))))))
theorem k27 : compF Tryz.prog 27 = some (c27, [(.t 2)], 14) := by kernel_rfl
/- "(*strings.Builder).WriteString" -/
def c28 : S :=
  (.hook 0 (.op (some 4) (.p (.mv (.const (.int .i64 0))))
  (.op (some 5) (.p (.mv (.const .nilIface)))
  (.hook 1 (.op (some 6) (.p (.mv (.tmp 0)))
  (.op (some 7) (.w (.call 65 [(.tmp 6)]))
  (.hook 2 (.op (some 8) (.p (.mv (.tmp 0)))
  (.op (some 9) (.p (.mv (.tmp 0)))
  (.op (some 10) (.p (.nilc (.tmp 9)))
  (.op (some 11) (.p (.fad (.tmp 10) 1))
  (.op (some 12) (.r (.ld false 1 (.tmp 11)))
  (.op (some 13) (.p (.mv (.tmp 1)))
  (.op (some 14) (.w (.apps 5000 1 (.tmp 12) (.tmp 13)))
  (.op (some 15) (.p (.nilc (.tmp 8)))
  (.op (some 16) (.p (.fad (.tmp 15) 1))
  (.op none (.w (.st false 1 (.tmp 16) (.tmp 14)))
  (.hook 3 (.op (some 17) (.p (.mv (.tmp 1)))
  (.op (some 18) (.p (.lens (.tmp 17)))
  (.op (some 4) (.p (.mv (.tmp 18)))
  (.op (some 5) (.p (.mv (.const .nilIface)))
  .ret))))))))))))))))))))))
theorem k28 : compF Tryz.prog 28 = some (c28, [(.t 4), (.t 5)], 19) := by kernel_rfl
/- "(*strings.Builder).WriteByte" -/
def c29 : S :=
  (.hook 0 (.op (some 4) (.p (.mv (.const .nilIface)))
  (.hook 1 (.op (some 5) (.p (.mv (.tmp 0)))
  (.op (some 6) (.w (.call 65 [(.tmp 5)]))
  (.hook 2 (.op (some 7) (.p (.mv (.tmp 0)))
  (.op (some 8) (.p (.mv (.tmp 0)))
  (.op (some 9) (.p (.nilc (.tmp 8)))
  (.op (some 10) (.p (.fad (.tmp 9) 1))
  (.op (some 11) (.r (.ld false 1 (.tmp 10)))
  (.op (some 12) (.p (.mv (.tmp 1)))
  (.op (some 13) (.l 1 1 [(.int .u8 0)] [(0, (1, (false, (.tmp 12))))])
  (.op (some 14) (.w (.app 5000 1 1 (.tmp 11) (.tmp 13)))
  (.op (some 15) (.p (.nilc (.tmp 7)))
  (.op (some 16) (.p (.fad (.tmp 15) 1))
  (.op none (.w (.st false 1 (.tmp 16) (.tmp 14)))
  (.hook 3 (.op (some 4) (.p (.mv (.const .nilIface)))
  .ret)))))))))))))))))))
theorem k29 : compF Tryz.prog 29 = some (c29, [(.t 4)], 17) := by kernel_rfl
/- "(*strings.Builder).copyCheck" -/
def c65 : S :=
  (.hook 0 (.op (some 2) (.p (.mv (.tmp 0)))
  (.op (some 3) (.p (.nilc (.tmp 2)))
  (.op (some 4) (.p (.fad (.tmp 3) 0))
  (.op (some 5) (.r (.ld false 1 (.tmp 4)))
  (.op (some 6) (.p (.nilq (.pointer 74) false (.tmp 5)))
  (.ite (.tmp 6)
    (.hook 1 (.op (some 7) (.p (.mv (.tmp 0)))
    (.op (some 8) (.p (.mv (.tmp 0)))
    (.op (some 9) (.x (.toU (.tmp 8)))
    (.op (some 10) (.x (.ext 104 [(.tmp 9)]))
    (.op (some 11) (.x (.fromU 74 (.tmp 10)))
    (.op (some 12) (.p (.nilc (.tmp 7)))
    (.op (some 13) (.p (.fad (.tmp 12) 0))
    (.op none (.w (.st false 1 (.tmp 13) (.tmp 11)))
    .done)))))))))
    (.hook 2 (.op (some 14) (.p (.mv (.tmp 0)))
    (.op (some 15) (.p (.nilc (.tmp 14)))
    (.op (some 16) (.p (.fad (.tmp 15) 0))
    (.op (some 17) (.r (.ld false 1 (.tmp 16)))
    (.op (some 18) (.p (.mv (.tmp 0)))
    (.op (some 19) (.x (.peq false (.tmp 17) (.tmp 18)))
    (.ite (.tmp 19)
      .bad
      .done)))))))))))))))
theorem k65 : compF Tryz.prog 65 = some (c65, [], 20) := by kernel_rfl
/-- A builder's word of itself: none yet, or where it lies. -/
def bA (A : V) (sz kp : Nat) : Prop := A = .v (.pointer none) ∨ A = .ptr sz kp 0 0
/-- What is known of the names of a builder's blocks. -/
structure BN (sz kp kb c : Nat) : Prop where
  hp : nameT kp = some c
  hc : c % 1000 ≠ 0
  hl : liesAt Tryz.prog Tryz.prog.depth (c / 1000) (c % 1000 / Tryz.prog.cellsOf (c / 1000)) 0 74 1 = true
  hb : nameT kb = some 5000
  hs : 0 < sz
/-- A builder that holds a text. -/
def bT (sz kp c : Nat) (l : List UInt8) (rest : List V) (h h' : Hp) : Prop := ∃ A kb, BN sz kp kb c ∧ bA A sz kp ∧ h' = bH sz kp kb A l rest h
theorem copyCheck_calls {sz kp kb c : Nat} (n : BN sz kp kb c) {A : V} (hA : bA A sz kp) (l : List UInt8) (rest : List V) (h : Hp) :
    VCalls Tryz.prog 65 [.ptr sz kp 0 0] (bH sz kp kb A l rest h) (fun v h' => h' = bH sz kp kb (.ptr sz kp 0 0) l rest h) := by
  unfold bH
  obtain ⟨h1, h2, h3, h4, hsz⟩ := n
  rcases hA with rfl | rfl
  · refine xc k65 rfl ?_
    refine run ?_
    refine XCalls.use (noEscape_calls _ _) ?_
    rintro _ _ ⟨rfl, rfl⟩
    refine run ?_
    refine .mk c h1 h2 h3 ?_
    refine run ?_
    exact retv rfl
  · refine xc k65 rfl ?_
    refine run ?_
    exact retv rfl
theorem setK_nil {rest : List V} {K : List V → Prop} (hk : K rest) : setK rest 0 [] K := by cases rest <;> exact hk
theorem bnums (l : List UInt8) : (nums l).length = l.length := by simp [nums]
theorem writeByte_calls {sz kp kb c : Nat} (n : BN sz kp kb c) {A : V} (hA : bA A sz kp) (l : List UInt8) (x : UInt8) (rest : List V) (h : Hp) (hlen : l.length + 1 < 2 ^ 47) :
    VCalls Tryz.prog 29 [.ptr sz kp 0 0, .v (.int .u8 (x.toNat : Int))] (bH sz kp kb A l rest h) (fun v h' => bT sz kp c (l ++ [x]) rest h h') := by
  refine xc k29 rfl ?_
  refine run ?_
  refine VCalls.use (copyCheck_calls n hA _ _ _) ?_
  rintro _ _ rfl
  unfold bH
  obtain ⟨h1, h2, h3, h4, hsz⟩ := n
  have hll := bnums l
  refine run ?_
  refine new_t fun k hk => ?_
  refine run ?_
  refine setK_nil ?_
  refine run ?_
  refine retv ?_
  refine ⟨_, k, ⟨h1, h2, h3, (by rcases hk with hk | hk; exact hk; exact hk ▸ h4), hsz⟩, .inr rfl, ?_⟩
  simp [bH, nums]
theorem writeString_calls {sz kp kb c : Nat} (n : BN sz kp kb c) {A : V} (hA : bA A sz kp) (l s : List UInt8) (rest : List V) (h : Hp) (hlen : l.length + s.length < 2 ^ 47) :
    VCalls Tryz.prog 28 [.ptr sz kp 0 0, .v (.string ⟨⟨s⟩⟩)] (bH sz kp kb A l rest h) (fun v h' => bT sz kp c (l ++ s) rest h h') := by
  refine xc k28 rfl ?_
  refine run ?_
  refine VCalls.use (copyCheck_calls n hA _ _ _) ?_
  rintro _ _ rfl
  unfold bH
  obtain ⟨h1, h2, h3, h4, hsz⟩ := n
  have hll := bnums l
  have hls := bnums s
  refine run ?_
  refine new_t fun k hk => ?_
  refine run ?_
  refine setK_nil ?_
  refine run ?_
  refine retv ?_
  refine ⟨_, k, ⟨h1, h2, h3, (by rcases hk with hk | hk; exact hk; exact hk ▸ h4), hsz⟩, .inr rfl, ?_⟩
  simp [bH, nums]
theorem string_calls {sz kp kb c : Nat} (n : BN sz kp kb c) (A : V) (l : List UInt8) (rest : List V) (h : Hp) (hpos : 0 < l.length) (hlen : l.length < 2 ^ 47) :
    VCalls Tryz.prog 27 [.ptr sz kp 0 0] (bH sz kp kb A l rest h) (fun v h' => v = vstr l ∧ h' = (kp, .blk sz [A :: .osl 1 kb 0 l.length :: rest]) :: h) := by
  refine xc k27 rfl ?_
  unfold bH
  obtain ⟨h1, h2, h3, h4, hsz⟩ := n
  have hll := bnums l
  refine run ?_
  refine Sd.mk (fun x hx => nums_bytes l x (by simpa [hll, List.take_of_length_le] using hx)) ?_
  refine run ?_
  refine retv ?_
  refine ⟨?_, rfl⟩
  simp [tupV, vstr, ofNums_nums, List.take_of_length_le, bnums]
end Go.Proofs.YtpiicncihccheaaGreatDoor
