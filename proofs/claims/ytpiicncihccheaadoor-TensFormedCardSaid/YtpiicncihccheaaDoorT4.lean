/- Walks of both sides of layer 1: the order of numbers. -/
import Derived.Test.YtpiicncihccheaaDoorT3
import Derived.Test.YtpiicncihccheaaDoorM2
namespace Go.Proofs.YtpiicncihccheaaDoor
open Go.XW Go.XW.DU
/- "hallmark/hallmarkref01.size" -/
def c78 : S :=
  (.hook 0 (.op (some 4) (.p (.mv (.const (.int .i64 0))))
  (.sq 1
    (.hook 1 (.op (some 6) (.p (.mv (.tmp 0)))
    (.op (some 7) (.p (.lenr (.tmp 6)))
    (.op (some 8) (.p (.mv (.tmp 1)))
    (.op (some 9) (.p (.lenr (.tmp 8)))
    (.op (some 10) (.p (.bin .neq (.tmp 7) (.tmp 9)))
    (.ite (.tmp 10)
      (.sq 2
        (.hook 2 (.op (some 11) (.p (.mv (.tmp 0)))
        (.op (some 12) (.p (.lenr (.tmp 11)))
        (.op (some 13) (.p (.mv (.tmp 1)))
        (.op (some 14) (.p (.lenr (.tmp 13)))
        (.op (some 15) (.p (.bin .lss (.tmp 12) (.tmp 14)))
        (.ite (.tmp 15)
          (.hook 3 (.op (some 4) (.p (.mv (.const (.int .i64 (-1)))))
          .ret))
          .done)))))))
      (.hook 4 (.op (some 4) (.p (.mv (.const (.int .i64 1))))
      .ret)))
      .done)))))))
  (.sq 5
    (.hook 5 (.op (some 16) (.p (.mv (.tmp 0)))
    (.op (some 17) (.p (.lenr (.tmp 16)))
    (.op (some 18) (.p (.bin .sub (.tmp 17) (.const (.int .i64 1))))
    (.op (some 5) (.p (.mv (.tmp 18)))
    (.block 0
      (.loop
        (.sq 6
          (.hook 6 (.op (some 19) (.p (.mv (.tmp 5)))
          (.op (some 20) (.p (.bin .geq (.tmp 19) (.const (.int .i64 0))))
          (.ite (.tmp 20)
            .done
            (.exit 0)))))
        (.sq 8
          (.block 1
            (.sq 8
              (.hook 8 (.op (some 23) (.p (.mv (.tmp 0)))
              (.op (some 24) (.p (.mv (.tmp 5)))
              (.op (some 25) (.p (.iad 1 (.tmp 23) (.tmp 24)))
              (.op (some 26) (.r (.ld false 1 (.tmp 25)))
              (.op (some 27) (.p (.mv (.tmp 1)))
              (.op (some 28) (.p (.mv (.tmp 5)))
              (.op (some 29) (.p (.iad 1 (.tmp 27) (.tmp 28)))
              (.op (some 30) (.r (.ld false 1 (.tmp 29)))
              (.op (some 31) (.p (.bin .lss (.tmp 26) (.tmp 30)))
              (.ite (.tmp 31)
                (.hook 9 (.op (some 4) (.p (.mv (.const (.int .i64 (-1)))))
                .ret))
                .done)))))))))))
            (.hook 10 (.op (some 32) (.p (.mv (.tmp 0)))
            (.op (some 33) (.p (.mv (.tmp 5)))
            (.op (some 34) (.p (.iad 1 (.tmp 32) (.tmp 33)))
            (.op (some 35) (.r (.ld false 1 (.tmp 34)))
            (.op (some 36) (.p (.mv (.tmp 1)))
            (.op (some 37) (.p (.mv (.tmp 5)))
            (.op (some 38) (.p (.iad 1 (.tmp 36) (.tmp 37)))
            (.op (some 39) (.r (.ld false 1 (.tmp 38)))
            (.op (some 40) (.p (.bin .gtr (.tmp 35) (.tmp 39)))
            (.ite (.tmp 40)
              (.hook 11 (.op (some 4) (.p (.mv (.const (.int .i64 1))))
              .ret))
              .done)))))))))))))
        (.hook 7 (.op (some 21) (.p (.mv (.tmp 5)))
        (.op (some 22) (.p (.bin .sub (.tmp 21) (.const (.int .i64 1))))
        (.op (some 5) (.p (.mv (.tmp 22)))
        .done)))))))))))))
  (.hook 12 (.op (some 4) (.p (.mv (.const (.int .i64 0))))
  .ret))))))
theorem k78 : compF Tryd.prog 78 = some (c78, [(.t 4)], 41) := by kernel_rfl
/- "hallmark/hallmarkref01.order" -/
def c63 : S :=
  (.hook 0 (.op (some 2) (.w (.box true 2 (.tmp 0)))
  (.op (some 3) (.w (.box true 2 (.tmp 1)))
  (.op (some 4) (.p (.mv (.const (.int .i64 0))))
  (.sq 1
    (.hook 1 (.op (some 5) (.p (.fad (.tmp 2) 0))
    (.op (some 6) (.r (.ld false 1 (.tmp 5)))
    (.op (some 7) (.p (.fad (.tmp 3) 0))
    (.op (some 8) (.r (.ld false 1 (.tmp 7)))
    (.op (some 9) (.p (.binb .neq (.tmp 6) (.tmp 8)))
    (.ite (.tmp 9)
      (.sq 2
        (.hook 2 (.op (some 10) (.p (.fad (.tmp 2) 0))
        (.op (some 11) (.r (.ld false 1 (.tmp 10)))
        (.ite (.tmp 11)
          (.hook 3 (.op (some 4) (.p (.mv (.const (.int .i64 (-1)))))
          .ret))
          .done))))
      (.hook 4 (.op (some 4) (.p (.mv (.const (.int .i64 1))))
      .ret)))
      .done)))))))
  (.sq 5
    (.hook 5 (.op (some 12) (.p (.fad (.tmp 2) 0))
    (.op (some 13) (.r (.ld false 1 (.tmp 12)))
    (.ite (.tmp 13)
      (.hook 6 (.op (some 14) (.p (.fad (.tmp 2) 1))
      (.op (some 15) (.r (.ld false 1 (.tmp 14)))
      (.op (some 16) (.p (.fad (.tmp 3) 1))
      (.op (some 17) (.r (.ld false 1 (.tmp 16)))
      (.op (some 18) (.w (.call 78 [(.tmp 15), (.tmp 17)]))
      (.op (some 19) (.p (.neg (.tmp 18)))
      (.op (some 4) (.p (.mv (.tmp 19)))
      .ret))))))))
      .done))))
  (.hook 7 (.op (some 20) (.p (.fad (.tmp 2) 1))
  (.op (some 21) (.r (.ld false 1 (.tmp 20)))
  (.op (some 22) (.p (.fad (.tmp 3) 1))
  (.op (some 23) (.r (.ld false 1 (.tmp 22)))
  (.op (some 24) (.w (.call 78 [(.tmp 21), (.tmp 23)]))
  (.op (some 4) (.p (.mv (.tmp 24)))
  .ret)))))))))))))
theorem k63 : compF Tryd.prog 63 = some (c63, [(.t 4)], 25) := by kernel_rfl
open Go.XW.DI hiding fm body sgn sizeI digs

theorem rsize_calls (m n : Nat) (h : Hp) (hm : (lod m).length ≤ 1000000000000000) (hn : (lod n).length ≤ 1000000000000000) : VCalls Tryd.prog 78 [.row 1 (rInts .i64 (lod m)), .row 1 (rInts .i64 (lod n))] h (fun v h' => v = int (cmpI m n) ∧ h' = h) := by
  refine xc k78 rfl ?_
  have ha := lod_dg m
  have hb := lod_dg n
  have va := lod_val m
  have vb := lod_val n
  have hlt : (lod m).length < (lod n).length → m < n := fun hh => by
    by_cases hc : m < n
    · exact hc
    · have := lod_len (m := n) (n := m) (by omega); omega
  have hgt : (lod n).length < (lod m).length → n < m := fun hh => by
    by_cases hc : n < m
    · exact hc
    · have := lod_len (m := m) (n := n) (by omega); omega
  generalize lod m = a at *
  generalize lod n = b at *
  refine run ?_
  refine br_nd (fun hne => ?_) (fun heq => ?_)
  · refine run ?_
    refine br_d (fun hc => ?_) (fun hc => ?_)
    · have := hlt (by omega)
      refine run ?_
      refine .now _ _ ⟨?_, rfl⟩
      rw [cmpI, if_pos (by omega)]; rfl
    · have := hgt (by omega)
      refine run ?_
      refine .now _ _ ⟨?_, rfl⟩
      rw [cmpI, if_neg (by omega), if_pos (by omega)]; rfl
  refine run ?_
  refine lp (fun j : Nat => [(0, .row 1 (rInts .i64 a)), (1, .row 1 (rInts .i64 b)), (5, int ((j : Int) - 1))]) (fun _ => h) (fun j => j ≤ a.length ∧ a.drop j = b.drop j) (fun j => j) (wkx a.length ⟨by omega, by rw [List.drop_of_length_le (by omega), List.drop_of_length_le (by omega)]⟩ fits rfl) ?_
  rintro j ⟨hj, hd⟩
  refine run ?_
  refine br_d (fun hc => ?_) (fun hc => ?_)
  · have hi : ((j : Int) - 1).toNat = j - 1 := by omega
    have hdd : a.drop (j - 1 + 1) = b.drop (j - 1 + 1) := by rw [show j - 1 + 1 = j by omega]; exact hd
    refine run ?_
    refine br_d (fun hc2 => ?_) (fun hc2 => ?_)
    · rw [hi] at hc2
      have := lval_lt_of ha hb (by omega) (by omega) hdd hc2
      refine run ?_
      refine .now _ _ ⟨?_, rfl⟩
      rw [cmpI, if_pos (by omega)]; rfl
    refine run ?_
    refine br_d (fun hc3 => ?_) (fun hc3 => ?_)
    · rw [hi] at hc3
      have := lval_lt_of hb ha (by omega) (by omega) hdd.symm hc3
      refine run ?_
      refine .now _ _ ⟨?_, rfl⟩
      rw [cmpI, if_neg (by omega), if_pos (by omega)]; rfl
    · refine run ?_
      rw [hi] at hc2 hc3
      refine wkx (j - 1) ⟨⟨by omega, ?_⟩, by omega⟩ fits rfl
      rw [drop_getD (ns := a) (by omega), drop_getD (ns := b) (by omega), hdd, show a.getD (j - 1) 0 = b.getD (j - 1) 0 by omega]
  · refine run ?_
    refine .now _ _ ⟨?_, rfl⟩
    have : j = 0 := by omega
    subst this
    have he : a = b := hd
    have : m = n := by rw [he] at va; omega
    subst this
    rw [cmpI, if_neg (by omega), if_neg (by omega)]; rfl

theorem rorder_calls (y z : Int) (h : Hp) (hy : (lod y.natAbs).length ≤ 1000000000000000) (hz : (lod z.natAbs).length ≤ 1000000000000000) : VCalls Tryd.prog 63 [numV y, numV z] h (fun v h' => v = int (cmpI y z) ∧ h' = h) := by
  refine xc k63 rfl ?_
  refine run ?_
  refine new_k fun k1 => ?_
  refine run ?_
  refine new_k fun k2 => ?_
  refine run ?_
  refine ⟨fun hb => ?_, fun hb => ?_⟩
  · refine run ?_
    refine br_d (fun hc => ?_) (fun hc => ?_)
    · refine run ?_
      refine ret1 (ret1 (retv ⟨?_, rfl⟩))
      have : ¬ z < 0 := by simpa [hc] using hb
      rw [cmpI, if_pos (by omega)]; rfl
    · refine run ?_
      refine ret1 (ret1 (retv ⟨?_, rfl⟩))
      have : z < 0 := by simpa [hc] using hb
      rw [cmpI, if_neg (by omega), if_pos (by omega)]; rfl
  · have hyz : y < 0 ↔ z < 0 := by simpa using hb
    refine run ?_
    refine br_d (fun hc => ?_) (fun hc => ?_)
    · refine run ?_
      refine VCalls.use (rsize_calls _ _ _ hy hz) ?_
      rintro _ _ ⟨rfl, rfl⟩
      have hr : cmpI y z = - cmpI y.natAbs z.natAbs := by
        have := hyz.1 hc
        unfold cmpI
        split <;> split <;> (try split) <;> (try split) <;> omega
      have hbd : -1 ≤ cmpI y.natAbs z.natAbs ∧ cmpI y.natAbs z.natAbs ≤ 1 := by unfold cmpI; split <;> (try split) <;> omega
      refine run ?_
      refine ret1 (ret1 (retv ⟨?_, rfl⟩))
      rw [hr]
      exact vint_eq (by omega)
    · refine run ?_
      refine VCalls.use (rsize_calls _ _ _ hy hz) ?_
      rintro _ _ ⟨rfl, rfl⟩
      refine run ?_
      refine ret1 (ret1 (retv ⟨?_, rfl⟩))
      have hr : cmpI y z = cmpI y.natAbs z.natAbs := by
        have : ¬ z < 0 := fun hh => hc (hyz.2 hh)
        unfold cmpI
        split <;> split <;> (try split) <;> (try split) <;> omega
      rw [hr]; rfl

theorem lod_decs (n : Nat) : (lod n).length ≤ (decs n).length := by
  unfold decs; split
  · rename_i h; subst h; rw [lod_zero]; simp
  · simp
theorem lod_en (z : Int) : (lod z.natAbs).length ≤ (en z).length := by
  have := lod_decs z.natAbs
  have := dc_le_en z
  rw [dc_length] at this
  omega

def cmpV (a b : List UInt8) : V := if fm a = true ∧ fm b = true then .tup [int (cmpI (zv a) (zv b)), int 0] else .tup [int 0, int 1]

end Go.Proofs.YtpiicncihccheaaDoor
