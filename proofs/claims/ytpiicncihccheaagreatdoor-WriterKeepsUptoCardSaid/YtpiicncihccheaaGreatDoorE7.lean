/- Walks of the statements of layer 6: WriterLines. -/
import Derived.Test.YtpiicncihccheaaGreatDoorE6
namespace Go.Proofs.YtpiicncihccheaaGreatDoor
open Go.XW Go.XW.DU Go.Lib Go.XW.U
/- "hallmark/hallmarkref06.Lines" -/
def c16 : S :=
  (.hook 0 (.op (some 2) (.p (.mv (.const (.string ⟨#[]⟩))))
  (.op (some 3) (.p (.mv (.const (.int .i64 0))))
  (.sq 1
    (.hook 1 (.op (some 6) (.p (.mv (.tmp 0)))
    (.op (some 7) (.w (.call 48 [(.tmp 6)]))
    (.op (some 8) (.p (.not (.tmp 7)))
    (.ite (.tmp 8)
      (.hook 2 (.op (some 2) (.p (.mv (.const (.string ⟨#[]⟩))))
      (.op (some 3) (.p (.mv (.const (.int .i64 1))))
      .ret)))
      .done)))))
  (.hook 3 (.op (some 4) (.p (.mv (.const (.string ⟨#[]⟩))))
  (.sq 4
    (.hook 4 (.op (some 5) (.p (.mv (.const (.int .i64 0))))
    (.block 0
      (.loop
        (.sq 5
          (.hook 5 (.op (some 9) (.p (.mv (.tmp 5)))
          (.op (some 10) (.p (.mv (.tmp 0)))
          (.op (some 11) (.p (.lenr (.tmp 10)))
          (.op (some 12) (.p (.bin .lss (.tmp 9) (.tmp 11)))
          (.ite (.tmp 12)
            .done
            (.exit 0)))))))
        (.sq 7
          (.block 1
            (.hook 7 (.op (some 15) (.p (.mv (.tmp 4)))
            (.op (some 16) (.p (.mv (.tmp 0)))
            (.op (some 17) (.p (.mv (.tmp 5)))
            (.op (some 18) (.p (.iad 5 (.tmp 16) (.tmp 17)))
            (.op (some 19) (.r (.ld true 5 (.tmp 18)))
            (.op (some 20) (.w (.call 47 [(.tmp 19), (.const (.int .i64 0)), (.const (.int .i64 (-1)))]))
            (.op (some 21) (.p (.bin .add (.tmp 15) (.tmp 20)))
            (.op (some 4) (.p (.mv (.tmp 21)))
            (.hook 8 (.op (some 22) (.p (.mv (.tmp 4)))
            (.op (some 23) (.p (.bin .add (.tmp 22) (.const (.string ⟨#[10]⟩))))
            (.op (some 4) (.p (.mv (.tmp 23)))
            .done))))))))))))))
        (.hook 6 (.op (some 13) (.p (.mv (.tmp 5)))
        (.op (some 14) (.p (.bin .add (.tmp 13) (.const (.int .i64 1))))
        (.op (some 5) (.p (.mv (.tmp 14)))
        .done))))))))))
  (.hook 9 (.op (some 24) (.p (.mv (.tmp 4)))
  (.op (some 2) (.p (.mv (.tmp 24)))
  (.op (some 3) (.p (.mv (.const (.int .i64 0))))
  .ret)))))))))))
theorem k16 : compF Tryz.prog 16 = some (c16, [(.t 2), (.t 3)], 25) := by kernel_rfl
/-- The plain texts, a line's end behind each. -/
def linesL (l : List JV) : List UInt8 := l.flatMap fun v => write v 0 (-1) ++ [10]
theorem linesL_take (l : List JV) (i : Nat) (hi : i < l.length) : linesL (l.take (i + 1)) = linesL (l.take i) ++ (write l[i] 0 (-1) ++ [10]) := by
  rw [List.take_succ_eq_append_getElem hi, linesL, List.flatMap_append]; simp [linesL]
theorem bk_sq : ∀ l : List JV, ∀ B : Nat, (∀ x ∈ l, x.bk ≤ B) → (linesL l).length ≤ (16 + 16 * B) * bkL l
  | [], B, _ => by simp [linesL]
  | x :: r, B, h => by
    have h1 := bk_sq r B fun y hy => h y (List.mem_cons_of_mem _ hy)
    have h2 := write_len (-1) (by omega) B x 0 (by omega) (by have := h x (by simp); omega)
    simp only [linesL, List.flatMap_cons, List.length_append, List.length_cons, List.length_nil, bkL] at h1 ⊢
    rw [Nat.mul_add]
    omega
theorem lines_len (l : List JV) (hb : bkL l ≤ 2 ^ 21) : (linesL l).length < 2 ^ 46 + 2 ^ 26 := by
  have h1 := bk_sq l (2 ^ 21) fun x hx => Nat.le_trans (bk_mem hx) hb
  have h2 : (16 + 16 * 2 ^ 21) * bkL l ≤ (16 + 16 * 2 ^ 21) * 2 ^ 21 := Nat.mul_le_mul_left _ hb
  have h3 : (16 + 16 * 2 ^ 21) * 2 ^ 21 = 70368777732096 := by decide
  have h4 : (2 : Nat) ^ 46 = 70368744177664 := by decide
  omega
theorem lines_take_len (l : List JV) (i : Nat) : (linesL (l.take i)).length ≤ (linesL l).length := by
  have : linesL l = linesL (l.take i) ++ linesL (l.drop i) := by rw [linesL, linesL, linesL, ← List.flatMap_append, List.take_append_drop]
  rw [this, List.length_append]; omega
def linesV (l : List JV) : V := if fmdL l then .tup [vstr (linesL l), int 0] else .tup [vstr [], int 1]
theorem rlines_calls (l : List JV) (h : Hp) (hb : bkL l ≤ 2 ^ 21) : VCalls Tryz.prog 16 [.row 5 (l.map JV.cells)] h (fun r h' => r = linesV l ∧ h' = h) := by
  have hll := bkL_len l
  have hlen := lines_len l hb
  refine xc k16 rfl ?_
  refine run ?_
  refine VCalls.use (rall_calls l (by omega) h) ?_
  rintro _ h ⟨rfl, rfl⟩
  unfold linesV
  cases hf : fmdL l with
  | false =>
    refine run ?_
    exact retv ⟨rfl, rfl⟩
  | true =>
    refine run ?_
    refine lp (fun i : Nat => [(0, .row 5 (l.map JV.cells)), (4, vstr (linesL (l.take i))), (5, int i)]) (fun _ => h) (fun i => i ≤ l.length) (fun i => l.length - i) (wkx 0 (by omega) fits rfl) ?_
    rintro i hi
    have htl := lines_take_len l i
    refine run ?_
    refine br_d (fun hlt => ?_) (fun hlt => ?_)
    · have hil : i < l.length := by omega
      have hml := bk_mem (List.getElem_mem hil)
      have htk := linesL_take l i hil
      have htl2 := lines_take_len l (i + 1)
      rw [htk] at htl2
      simp only [List.length_append, List.length_cons, List.length_nil] at htl2
      have hfi : fmd l[i] = true := by rw [fmdL_all, List.all_eq_true] at hf; exact hf _ (List.getElem_mem hil)
      refine run ?_
      refine at_jv hil ?_
      refine run ?_
      refine VCalls.use (rwrite_calls l[i] hfi 0 (-1) _ (by omega) (by omega) (by omega)) ?_
      rintro _ _ ⟨rfl, rfl⟩
      refine run ?_
      refine wkx ((i + 1)) (⟨by omega, by omega⟩) (.cons _ _ _ _ rfl rfl (.cons _ _ _ _ rfl (by rw [htk, List.append_assoc]) (.cons _ _ _ _ rfl (vint_eq (by first | omega | (dsimp only; omega))) .nil))) rfl
    · obtain rfl : i = l.length := by omega
      rw [List.take_length]
      refine run ?_
      exact retv ⟨rfl, rfl⟩
theorem string0_calls (sz kp : Nat) (A : V) (rest : List V) (h : Hp) : VCalls Tryz.prog 27 [.ptr sz kp 0 0] ((kp, .blk sz [A :: vnil :: rest]) :: h) (fun v h' => v = vstr [] ∧ h' = (kp, .blk sz [A :: vnil :: rest]) :: h) := by
  refine xc k27 rfl ?_
  refine run ?_
  exact retv ⟨rfl, rfl⟩
theorem lines_calls (l : List JV) (h : Hp) (ht : Tabs h) (hb : bkL l ≤ 2 ^ 21) : VCalls Tryz.prog 10 [.row 5 (l.map JV.cells)] h (fun r h' => r = linesV l ∧ h' = h) := by
  have hll := bkL_len l
  have hlen := lines_len l hb
  by_cases hl0 : l = []
  · subst hl0
    refine xc k10 rfl ?_
    refine run ?_
    refine new_t fun kp hkp => ?_
    refine run ?_
    refine lp (fun _ : Unit => [(4, .ptr 2 kp 0 0), (11, int 0), (12, int 0)]) (fun _ => (kp, .blk 2 [[.v (.pointer none), vnil]]) :: h) (fun _ => True) (fun _ => 0) (wkx () trivial fits rfl) ?_
    rintro ⟨⟩ -
    refine run ?_
    refine VCalls.use (string0_calls 2 kp (.v (.pointer none)) [] h) ?_
    rintro _ _ ⟨rfl, rfl⟩
    refine run ?_
    exact ret1 (retv ⟨rfl, rfl⟩)
  refine VCalls.name 1 5000 fun kb hkb => ?_
  refine xc k10 rfl ?_
  refine run ?_
  refine new_t fun kp hkp => ?_
  refine run ?_
  refine lp (fun x : Nat × V × Nat => [(0, .row 5 (l.map JV.cells)), (4, .ptr 2 kp 0 0), (10, .row 5 (l.map JV.cells)), (11, int l.length), (12, int x.1)]) (fun x => bH 2 kp x.2.2 x.2.1 (linesL (l.take x.1)) [] h) (fun x => x.1 ≤ l.length ∧ BN 2 kp x.2.2 74002 ∧ bA x.2.1 2 kp ∧ fmdL (l.take x.1) = true) (fun x => l.length - x.1) ?_ ?_
  · refine .perm _ _ _ (List.Perm.swap _ _ _) ?_
    refine wkh (h2 := (kb, .blk 1 []) :: (kp, .blk 2 [[.v (.pointer none), .osl 1 kb 0 0]]) :: h) hrs ?_
    exact wkx (0, .v (.pointer none), kb) ⟨by omega, ⟨hkp, by decide, by kernel_rfl, hkb, by omega⟩, .inl rfl, rfl⟩ fits rfl
  rintro ⟨i, A, kb2⟩ ⟨hi, hn, hA, hfm⟩
  dsimp only at hi hn hA hfm ⊢
  unfold bH
  have htl := lines_take_len l i
  refine run ?_
  refine br_d (fun hlt => ?_) (fun hlt => ?_)
  · have hil : i < l.length := by omega
    have hml := bk_mem (List.getElem_mem hil)
    have htk := linesL_take l i hil
    have htl2 := lines_take_len l (i + 1)
    rw [htk] at htl2
    simp only [List.length_append, List.length_cons, List.length_nil] at htl2
    refine run ?_
    refine at_jv hil ?_
    refine run ?_
    refine new_k fun k6 => ?_
    refine run ?_
    refine VCalls.use (wtext_calls l[i] _ (((ht.cons _).cons _).cons _) (by omega)) ?_
    rintro _ _ ⟨rfl, rfl⟩
    unfold textV
    cases hf : fmd l[i] with
    | false =>
      refine run ?_
      refine ret1 (ret1 (ret1 (retv ⟨?_, rfl⟩)))
      rw [linesV, if_neg (by rw [fmdL_not hil hf]; decide)]; rfl
    | true =>
      refine run ?_
      refine VCalls.perm up2 ?_
      refine VCalls.use (writeString_calls hn hA _ _ [] _ (by omega)) ?_
      rintro _ _ ⟨A3, kb3, hn3, hA3, rfl⟩
      unfold bH
      refine run ?_
      refine VCalls.use (writeByte_calls hn3 hA3 _ 10 [] _ (by simp only [List.length_append]; omega)) ?_
      rintro _ _ ⟨A4, kb4, hn4, hA4, rfl⟩
      unfold bH
      refine run ?_
      refine wkl (i + 1, A4, kb4) ⟨⟨by dsimp only; omega, hn4, hA4, ?_⟩, by dsimp only; omega⟩ fits (subl (by rw [htk, List.append_assoc]))
      dsimp only
      rw [List.take_succ_eq_append_getElem hil, fmdL_all, List.all_append, ← fmdL_all, hfm]
      simp [hf]
  · obtain rfl : i = l.length := by omega
    rw [List.take_length] at *
    rw [linesV, hfm]
    have hpos : 0 < (linesL l).length := by
      cases l with
      | nil => exact absurd rfl hl0
      | cons x r => simp [linesL]; omega
    refine run ?_
    refine VCalls.use (string_calls hn A _ _ _ hpos (by omega)) ?_
    rintro _ _ ⟨rfl, rfl⟩
    refine run ?_
    exact ret1 (retv ⟨rfl, rfl⟩)
theorem jv_ext7 {a b : JV} (h1 : a.kind = b.kind) (h2 : a.num = b.num) (h3 : a.text = b.text) (h4 : a.items = b.items) (h5 : a.keys = b.keys) : a = b := by
  cases a; cases b; simp only [JV.kind, JV.num, JV.text, JV.items, JV.keys] at h1 h2 h3 h4 h5; subst h1 h2 h3 h4 h5; rfl
noncomputable instance : DecidableEq JV := fun a b => Classical.propDecidable (a = b)
end Go.Proofs.YtpiicncihccheaaGreatDoor
