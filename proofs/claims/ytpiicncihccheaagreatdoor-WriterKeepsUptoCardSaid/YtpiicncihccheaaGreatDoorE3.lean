/- Walks of the reference of layer 6: a value's text. -/
import Derived.Test.YtpiicncihccheaaGreatDoorJ2
import Derived.Test.YtpiicncihccheaaGreatDoorE2
namespace Go.Proofs.YtpiicncihccheaaGreatDoor
open Go.XW Go.XW.DU Go.Lib Go.XW.U
/- "hallmark/hallmarkref06.write" -/
def c47 : S :=
  (.hook 0 (.op (some 3) (.w (.box true 5 (.tmp 0)))
  (.op (some 6) (.p (.mv (.const (.string ⟨#[]⟩))))
  (.sq 1
    (.hook 1 (.op (some 10) (.p (.fad (.tmp 3) 0))
    (.op (some 11) (.r (.ld false 1 (.tmp 10)))
    (.op (some 12) (.p (.bin .lss (.tmp 11) (.const (.int .i64 5))))
    (.ite (.tmp 12)
      (.hook 2 (.op (some 13) (.r (.ld true 5 (.tmp 3)))
      (.op (some 14) (.w (.call 92 [(.tmp 13)]))
      (.op (some 6) (.p (.mv (.tmp 14)))
      .ret))))
      .done)))))
  (.hook 3 (.op (some 7) (.p (.mv (.const (.string ⟨#[91]⟩))))
  (.hook 4 (.op (some 8) (.p (.mv (.const (.string ⟨#[93]⟩))))
  (.sq 5
    (.hook 5 (.op (some 15) (.p (.fad (.tmp 3) 0))
    (.op (some 16) (.r (.ld false 1 (.tmp 15)))
    (.op (some 17) (.p (.bin .eql (.tmp 16) (.const (.int .i64 6))))
    (.ite (.tmp 17)
      (.hook 6 (.op (some 7) (.p (.mv (.const (.string ⟨#[123]⟩))))
      (.hook 7 (.op (some 8) (.p (.mv (.const (.string ⟨#[125]⟩))))
      .done))))
      .done)))))
  (.sq 8
    (.hook 8 (.op (some 9) (.p (.mv (.const (.int .i64 0))))
    (.block 0
      (.loop
        (.sq 9
          (.hook 9 (.op (some 18) (.p (.mv (.tmp 9)))
          (.op (some 19) (.p (.fad (.tmp 3) 3))
          (.op (some 20) (.r (.ld false 1 (.tmp 19)))
          (.op (some 21) (.p (.lenr (.tmp 20)))
          (.op (some 22) (.p (.bin .lss (.tmp 18) (.tmp 21)))
          (.ite (.tmp 22)
            .done
            (.exit 0))))))))
        (.sq 11
          (.block 1
            (.sq 11
              (.hook 11 (.op (some 25) (.p (.mv (.tmp 9)))
              (.op (some 26) (.p (.bin .gtr (.tmp 25) (.const (.int .i64 0))))
              (.ite (.tmp 26)
                (.hook 12 (.op (some 27) (.p (.mv (.tmp 7)))
                (.op (some 28) (.p (.bin .add (.tmp 27) (.const (.string ⟨#[44]⟩))))
                (.op (some 7) (.p (.mv (.tmp 28)))
                .done))))
                .done))))
            (.hook 13 (.op (some 29) (.p (.mv (.tmp 7)))
            (.op (some 30) (.p (.mv (.tmp 1)))
            (.op (some 31) (.p (.bin .add (.tmp 30) (.const (.int .i64 1))))
            (.op (some 32) (.p (.mv (.tmp 2)))
            (.op (some 33) (.w (.call 93 [(.tmp 31), (.tmp 32)]))
            (.op (some 34) (.p (.bin .add (.tmp 29) (.tmp 33)))
            (.op (some 7) (.p (.mv (.tmp 34)))
            (.sq 14
              (.hook 14 (.op (some 35) (.p (.fad (.tmp 3) 0))
              (.op (some 36) (.r (.ld false 1 (.tmp 35)))
              (.op (some 37) (.p (.bin .eql (.tmp 36) (.const (.int .i64 6))))
              (.ite (.tmp 37)
                (.hook 15 (.op (some 38) (.p (.mv (.tmp 7)))
                (.op (some 39) (.p (.fad (.tmp 3) 4))
                (.op (some 40) (.r (.ld false 1 (.tmp 39)))
                (.op (some 41) (.p (.mv (.tmp 9)))
                (.op (some 42) (.p (.iad 1 (.tmp 40) (.tmp 41)))
                (.op (some 43) (.r (.ld false 1 (.tmp 42)))
                (.op (some 44) (.w (.call 94 [(.tmp 43)]))
                (.op (some 45) (.p (.bin .add (.tmp 38) (.tmp 44)))
                (.op (some 7) (.p (.mv (.tmp 45)))
                (.hook 16 (.op (some 46) (.p (.mv (.tmp 7)))
                (.op (some 47) (.p (.bin .add (.tmp 46) (.const (.string ⟨#[58]⟩))))
                (.op (some 7) (.p (.mv (.tmp 47)))
                (.hook 17 (.op (some 48) (.p (.mv (.tmp 2)))
                (.op (some 49) (.p (.bin .geq (.tmp 48) (.const (.int .i64 0))))
                (.ite (.tmp 49)
                  (.hook 18 (.op (some 50) (.p (.mv (.tmp 7)))
                  (.op (some 51) (.p (.bin .add (.tmp 50) (.const (.string ⟨#[32]⟩))))
                  (.op (some 7) (.p (.mv (.tmp 51)))
                  .done))))
                  .done))))))))))))))))))
                .done)))))
            (.hook 19 (.op (some 52) (.p (.mv (.tmp 7)))
            (.op (some 53) (.p (.fad (.tmp 3) 3))
            (.op (some 54) (.r (.ld false 1 (.tmp 53)))
            (.op (some 55) (.p (.mv (.tmp 9)))
            (.op (some 56) (.p (.iad 5 (.tmp 54) (.tmp 55)))
            (.op (some 57) (.r (.ld true 5 (.tmp 56)))
            (.op (some 58) (.p (.mv (.tmp 1)))
            (.op (some 59) (.p (.bin .add (.tmp 58) (.const (.int .i64 1))))
            (.op (some 60) (.p (.mv (.tmp 2)))
            (.op (some 61) (.w (.call 47 [(.tmp 57), (.tmp 59), (.tmp 60)]))
            (.op (some 62) (.p (.bin .add (.tmp 52) (.tmp 61)))
            (.op (some 7) (.p (.mv (.tmp 62)))
            .done))))))))))))))))))))))))
        (.hook 10 (.op (some 23) (.p (.mv (.tmp 9)))
        (.op (some 24) (.p (.bin .add (.tmp 23) (.const (.int .i64 1))))
        (.op (some 9) (.p (.mv (.tmp 24)))
        .done))))))))))
  (.sq 20
    (.hook 20 (.op (some 63) (.p (.fad (.tmp 3) 3))
    (.op (some 64) (.r (.ld false 1 (.tmp 63)))
    (.op (some 65) (.p (.lenr (.tmp 64)))
    (.op (some 66) (.p (.bin .gtr (.tmp 65) (.const (.int .i64 0))))
    (.ite (.tmp 66)
      (.hook 21 (.op (some 67) (.p (.mv (.tmp 7)))
      (.op (some 68) (.p (.mv (.tmp 1)))
      (.op (some 69) (.p (.mv (.tmp 2)))
      (.op (some 70) (.w (.call 93 [(.tmp 68), (.tmp 69)]))
      (.op (some 71) (.p (.bin .add (.tmp 67) (.tmp 70)))
      (.op (some 7) (.p (.mv (.tmp 71)))
      .done)))))))
      .done))))))
  (.hook 22 (.op (some 72) (.p (.mv (.tmp 7)))
  (.op (some 73) (.p (.mv (.tmp 8)))
  (.op (some 74) (.p (.bin .add (.tmp 72) (.tmp 73)))
  (.op (some 6) (.p (.mv (.tmp 74)))
  .ret))))))))))))))))
theorem k47 : compF Tryz.prog 47 = some (c47, [(.t 6)], 75) := by kernel_rfl
/- "hallmark/hallmarkref06.Text" -/
def c14 : S :=
  (.hook 0 (.op (some 1) (.w (.box true 5 (.tmp 0)))
  (.op (some 2) (.p (.mv (.const (.string ⟨#[]⟩))))
  (.op (some 3) (.p (.mv (.const (.int .i64 0))))
  (.sq 1
    (.hook 1 (.op (some 4) (.r (.ld true 5 (.tmp 1)))
    (.op (some 5) (.w (.call 18 [(.tmp 4)]))
    (.op (some 6) (.p (.not (.tmp 5)))
    (.ite (.tmp 6)
      (.hook 2 (.op (some 2) (.p (.mv (.const (.string ⟨#[]⟩))))
      (.op (some 3) (.p (.mv (.const (.int .i64 1))))
      .ret)))
      .done)))))
  (.hook 3 (.op (some 7) (.r (.ld true 5 (.tmp 1)))
  (.op (some 8) (.w (.call 47 [(.tmp 7), (.const (.int .i64 0)), (.const (.int .i64 (-1)))]))
  (.op (some 2) (.p (.mv (.tmp 8)))
  (.op (some 3) (.p (.mv (.const (.int .i64 0))))
  .ret))))))))))
theorem k14 : compF Tryz.prog 14 = some (c14, [(.t 2), (.t 3)], 9) := by kernel_rfl
/- "hallmark/hallmarkref06.Laid" -/
def c15 : S :=
  (.hook 0 (.op (some 2) (.w (.box true 5 (.tmp 0)))
  (.op (some 4) (.p (.mv (.const (.string ⟨#[]⟩))))
  (.op (some 5) (.p (.mv (.const (.int .i64 0))))
  (.sq 1
    (.hook 1 (.op (some 6) (.p (.mv (.tmp 1)))
    (.op (some 7) (.p (.bin .lss (.tmp 6) (.const (.int .i64 0))))
    (.op (some 8) (.p (.mv (.tmp 7)))
    (.g 8 false (some 9) (.p (.mv (.tmp 1)))
    (.g 8 false (some 10) (.p (.bin .gtr (.tmp 9) (.const (.int .i64 8))))
    (.op (some 11) (.p (.pick (.tmp 8) (.const (.bool true)) (.tmp 10)))
    (.ite (.tmp 11)
      (.hook 2 (.op (some 4) (.p (.mv (.const (.string ⟨#[]⟩))))
      (.op (some 5) (.p (.mv (.const (.int .i64 2))))
      .ret)))
      .done))))))))
  (.sq 3
    (.hook 3 (.op (some 12) (.r (.ld true 5 (.tmp 2)))
    (.op (some 13) (.w (.call 18 [(.tmp 12)]))
    (.op (some 14) (.p (.not (.tmp 13)))
    (.ite (.tmp 14)
      (.hook 4 (.op (some 4) (.p (.mv (.const (.string ⟨#[]⟩))))
      (.op (some 5) (.p (.mv (.const (.int .i64 1))))
      .ret)))
      .done)))))
  (.hook 5 (.op (some 15) (.r (.ld true 5 (.tmp 2)))
  (.op (some 16) (.p (.mv (.tmp 1)))
  (.op (some 17) (.w (.call 47 [(.tmp 15), (.const (.int .i64 0)), (.tmp 16)]))
  (.op (some 4) (.p (.mv (.tmp 17)))
  (.op (some 5) (.p (.mv (.const (.int .i64 0))))
  .ret))))))))))))
theorem k15 : compF Tryz.prog 15 = some (c15, [(.t 4), (.t 5)], 18) := by kernel_rfl
def RwIH (n : Nat) : Prop := ∀ v : JV, v.bk < n → fmd v = true → ∀ (d st : Int) (h : Hp), 0 ≤ d → d + v.bk ≤ 2 ^ 21 → st ≤ 8 → VCalls Tryz.prog 47 [.agg v.c5, int d, int st] h (fun r h' => r = vstr (write v d st) ∧ h' = h)
theorem rwrite_ih {n : Nat} (IH : RwIH n) (v : JV) (hv : v.bk < n + 1) (hf : fmd v = true) (d st : Int) (h : Hp) (h0 : 0 ≤ d) (hb : d + v.bk ≤ 2 ^ 21) (hst : st ≤ 8) : VCalls Tryz.prog 47 [.agg v.c5, int d, int st] h (fun r h' => r = vstr (write v d st) ∧ h' = h) := by
  have hF := fmd_get hf
  have he := bk_eq v
  have hkl := keysB_len v.keys
  have hll := bkL_len v.items
  have hwl := write_bound hst v h0 hb
  rw [write_eq] at hwl ⊢
  refine xc k47 rfl ?_
  refine run ?_
  refine new_k fun kb => ?_
  refine run ?_
  refine br_d (fun h5 => ?_) (fun h5 => ?_)
  · rw [if_pos h5]
    refine run ?_
    refine VCalls.use (rword_calls v.kind v.num v.text _ _ _ (by omega)) ?_
    rintro _ _ ⟨rfl, rfl⟩
    refine run ?_
    exact ret1 (retv ⟨rfl, rfl⟩)
  rw [if_neg h5] at hwl ⊢
  refine runto 5 ?_
  refine jn (fun _ : Unit => [(1, int d), (2, int st), (3, .ptr 5 kb 0 0), (7, vstr (if v.kind = 6 then [123] else [91])), (8, vstr (if v.kind = 6 then [125] else [93]))]) (fun _ => (kb, .blk 5 [v.c5]) :: h) (fun _ => True) ?_ ?_
  · refine run ?_
    refine br_d (fun h6 => ?_) (fun h6 => ?_)
    · refine run ?_
      refine wkx (()) (trivial) (.cons _ _ _ _ rfl rfl (.cons _ _ _ _ rfl rfl (.cons _ _ _ _ rfl rfl (.cons _ _ _ _ rfl (by rw [if_pos h6]) (.cons _ _ _ _ rfl (by rw [if_pos h6]) .nil))))) rfl
    · refine run ?_
      refine wkx (()) (trivial) (.cons _ _ _ _ rfl rfl (.cons _ _ _ _ rfl rfl (.cons _ _ _ _ rfl rfl (.cons _ _ _ _ rfl (by rw [if_neg h6]) (.cons _ _ _ _ rfl (by rw [if_neg h6]) .nil))))) rfl
  rintro ⟨⟩ -
  obtain ⟨ho, hol⟩ : ∃ o : List UInt8, o = (if v.kind = 6 then [123] else [91]) ∧ o.length = 1 := ⟨_, rfl, by split <;> rfl⟩
  obtain ⟨hc, hcl⟩ : ∃ o : List UInt8, o = (if v.kind = 6 then [125] else [93]) ∧ o.length = 1 := ⟨_, rfl, by split <;> rfl⟩
  rw [← hol.1, ← hcl.1] at hwl ⊢
  refine run ?_
  refine lp (fun i : Nat => [(1, int d), (2, int st), (3, .ptr 5 kb 0 0), (7, vstr (ho ++ writeL v.kind (v.items.take i) v.keys (d + 1) st true)), (8, vstr hc), (9, int i)]) (fun _ => (kb, .blk 5 [v.c5]) :: h) (fun i => i ≤ v.items.length) (fun i => v.items.length - i) (wkx 0 (by omega) (.cons _ _ _ _ rfl rfl (.cons _ _ _ _ rfl rfl (.cons _ _ _ _ rfl rfl (.cons _ _ _ _ rfl (by simp [writeL]) (.cons _ _ _ _ rfl rfl (.cons _ _ _ _ rfl rfl .nil)))))) rfl) ?_
  rintro i hi
  have hlt := writeL_len_take v.kind (d + 1) st v.items v.keys i
  simp only [List.length_append] at hwl
  refine run ?_
  refine br_d (fun hb => ?_) (fun hb => ?_)
  · have hil : i < v.items.length := by omega
    have htk := writeL_take v.kind (d + 1) st v.items v.keys i hil
    have hlt2 := writeL_len_take v.kind (d + 1) st v.items v.keys (i + 1)
    rw [htk] at hlt2
    simp only [List.length_append] at hlt2
    have hml := bk_mem (List.getElem_mem hil)
    have hkm : (v.keys.getD i []).length ≤ keysB v.keys := by
      by_cases hk : i < v.keys.length
      · have hm : v.keys.getD i [] ∈ v.keys := by simp [List.getD, hk]
        have := keysB_mem hm; omega
      · simp [List.getD, hk]
    have hk6 := hF.keys
    have hq := quote_len (v.keys.getD i [])
    have hln := line_len (d := d + 1) (st := st) (by omega) hst (B := 2 ^ 21) (by omega)
    have hwi := write_bound hst v.items[i] (d := d + 1) (by omega) (by omega)
    have hwb : (writeL v.kind v.items v.keys (d + 1) st true).length < 2 ^ 47 := by omega
    have hol2 := hol.2
    clear hwl hlt2
    refine run ?_
    repeat' (first | (refine br_d (fun _ => ?_) (fun _ => ?_) <;> refine run ?_) | (refine br_nd (fun _ => ?_) (fun _ => ?_) <;> refine run ?_) | (refine Br.mk (fun _ => ?_) (fun _ => ?_) <;> refine run ?_) | (refine new_k fun _ => ?_; refine run ?_) | (refine VCalls.use (rline_calls (d + 1) st _ (by omega) hst) ?_; rintro _ _ ⟨rfl, rfl⟩; refine run ?_) | (refine at_key (by omega) ?_; refine run ?_) | (refine VCalls.use (rquote_calls _ _ (by omega)) ?_; rintro _ _ ⟨rfl, rfl⟩; refine run ?_) | (refine at_jv hil ?_; refine run ?_) | (refine VCalls.use (IH v.items[i] (by omega) (hF.item _ (List.getElem_mem hil)) (d + 1) st _ (by omega) (by omega) hst) ?_; rintro _ _ ⟨rfl, rfl⟩; refine run ?_))
    all_goals ((refine wkx ((i + 1)) (⟨by omega, by omega⟩) (.cons _ _ _ _ rfl rfl (.cons _ _ _ _ rfl rfl (.cons _ _ _ _ rfl rfl (.cons _ _ _ _ rfl (by rw [htk]; by_cases hi0 : i = 0 <;> simp_all [List.append_assoc]) (.cons _ _ _ _ rfl rfl (.cons _ _ _ _ rfl (vint_eq (by first | omega | (dsimp only; omega))) .nil)))))) rfl))
  · obtain rfl : i = v.items.length := by omega
    rw [List.take_length] at *
    have hln := line_len (d := d) (st := st) (by omega) hst (B := 2 ^ 21) (by omega)
    have hol2 := hol.2
    have hcl2 := hcl.2
    refine run ?_
    repeat' (first | (refine br_d (fun _ => ?_) (fun _ => ?_) <;> refine run ?_) | (refine br_nd (fun _ => ?_) (fun _ => ?_) <;> refine run ?_) | (refine Br.mk (fun _ => ?_) (fun _ => ?_) <;> refine run ?_) | (refine new_k fun _ => ?_; refine run ?_) | (refine VCalls.use (rline_calls d st _ (by omega) hst) ?_; rintro _ _ ⟨rfl, rfl⟩; refine run ?_))
    all_goals ((refine ret1 (retv ⟨?_, rfl⟩); show vstr _ = vstr _; refine vstr_eq ?_; by_cases hi0 : v.items = [] <;> simp_all [List.append_assoc]))
theorem rwIH : ∀ n, RwIH n
  | 0 => fun v hv => by omega
  | n + 1 => fun v hv hf d st h h0 h1 h2 => rwrite_ih (rwIH n) v hv hf d st h h0 h1 h2
theorem rwrite_calls (v : JV) (hf : fmd v = true) (d st : Int) (h : Hp) (h0 : 0 ≤ d) (hb : d + v.bk ≤ 2 ^ 21) (hst : st ≤ 8) : VCalls Tryz.prog 47 [.agg v.c5, int d, int st] h (fun r h' => r = vstr (write v d st) ∧ h' = h) := rwIH (v.bk + 1) v (by omega) hf d st h h0 hb hst
/-- The plain text, or the error's number. -/
def textV (v : JV) (st : Int) : V := if fmd v then .tup [vstr (write v 0 st), int 0] else .tup [vstr [], int 1]
def laidV (v : JV) (st : Int) : V := if st < 0 ∨ 8 < st then .tup [vstr [], int 2] else textV v st
theorem rtext_calls (v : JV) (h : Hp) (hb : v.bk ≤ 2 ^ 21) : VCalls Tryz.prog 14 [.agg v.c5] h (fun r h' => r = textV v (-1) ∧ h' = h) := by
  refine xc k14 rfl ?_
  cases hf : fmd v with
  | true =>
    refine run ?_
    repeat' (first | (refine br_d (fun _ => ?_) (fun _ => ?_) <;> refine run ?_) | (refine br_nd (fun _ => ?_) (fun _ => ?_) <;> refine run ?_) | (refine Br.mk (fun _ => ?_) (fun _ => ?_) <;> refine run ?_) | (refine new_k fun _ => ?_; refine run ?_) | (refine VCalls.use (rformed_calls v (by omega) _) ?_; rintro _ _ ⟨rfl, rfl⟩; refine run ?_) | (refine VCalls.use (rwrite_calls v hf 0 (-1) _ (by omega) (by omega) (by omega)) ?_; rintro _ _ ⟨rfl, rfl⟩; refine run ?_))
    all_goals (first | (exfalso; simp_all; done) | ((refine ret1 (retv ⟨?_, rfl⟩); simp_all [tupV, textV])))
  | false =>
    refine run ?_
    repeat' (first | (refine br_d (fun _ => ?_) (fun _ => ?_) <;> refine run ?_) | (refine br_nd (fun _ => ?_) (fun _ => ?_) <;> refine run ?_) | (refine Br.mk (fun _ => ?_) (fun _ => ?_) <;> refine run ?_) | (refine new_k fun _ => ?_; refine run ?_) | (refine VCalls.use (rformed_calls v (by omega) _) ?_; rintro _ _ ⟨rfl, rfl⟩; refine run ?_))
    all_goals (first | (exfalso; simp_all; done) | ((refine ret1 (retv ⟨?_, rfl⟩); simp_all [tupV, textV])))
theorem rlaid_calls (v : JV) (st : Int) (h : Hp) (hb : v.bk ≤ 2 ^ 21) : VCalls Tryz.prog 15 [.agg v.c5, int st] h (fun r h' => r = laidV v st ∧ h' = h) := by
  refine xc k15 rfl ?_
  cases hf : fmd v with
  | true =>
    refine run ?_
    repeat' (first | (refine br_d (fun _ => ?_) (fun _ => ?_) <;> refine run ?_) | (refine br_nd (fun _ => ?_) (fun _ => ?_) <;> refine run ?_) | (refine Br.mk (fun _ => ?_) (fun _ => ?_) <;> refine run ?_) | (refine new_k fun _ => ?_; refine run ?_) | (refine VCalls.use (rformed_calls v (by omega) _) ?_; rintro _ _ ⟨rfl, rfl⟩; refine run ?_) | (refine VCalls.use (rwrite_calls v hf 0 st _ (by omega) (by omega) (by omega)) ?_; rintro _ _ ⟨rfl, rfl⟩; refine run ?_))
    all_goals (first | (exfalso; simp_all; done) | ((refine ret1 (retv ⟨?_, rfl⟩); simp_all [tupV, textV, laidV])))
  | false =>
    refine run ?_
    repeat' (first | (refine br_d (fun _ => ?_) (fun _ => ?_) <;> refine run ?_) | (refine br_nd (fun _ => ?_) (fun _ => ?_) <;> refine run ?_) | (refine Br.mk (fun _ => ?_) (fun _ => ?_) <;> refine run ?_) | (refine new_k fun _ => ?_; refine run ?_) | (refine VCalls.use (rformed_calls v (by omega) _) ?_; rintro _ _ ⟨rfl, rfl⟩; refine run ?_))
    all_goals (first | (exfalso; simp_all; done) | ((refine ret1 (retv ⟨?_, rfl⟩); simp_all [tupV, textV, laidV])))
end Go.Proofs.YtpiicncihccheaaGreatDoor
