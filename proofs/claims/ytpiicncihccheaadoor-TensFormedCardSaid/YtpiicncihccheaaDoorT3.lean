/- Walks of the reference of layer 1: numbers as their digits, the lowest first. -/
import Derived.Test.YtpiicncihccheaaDoorT2
namespace Go.Proofs.YtpiicncihccheaaDoor
open Go.XW Go.XW.DU
/- "hallmark/hallmarkref01.trim" -/
def c64 : S :=
  (.hook 0 (.op (some 1) (.w (.box true 2 (.tmp 0)))
  (.op (some 2) (.w (.alloc 2 [(.bool false), (.slice none 0 0)]))
  (.hook 1 (.op (some 4) (.p (.fad (.tmp 1) 1))
  (.op (some 5) (.r (.ld false 1 (.tmp 4)))
  (.op (some 6) (.p (.lenr (.tmp 5)))
  (.op (some 3) (.p (.mv (.tmp 6)))
  (.sq 2
    (.block 0
      (.loop
        (.sq 2
          (.hook 2 (.op (some 7) (.p (.mv (.tmp 3)))
          (.op (some 8) (.p (.bin .gtr (.tmp 7) (.const (.int .i64 0))))
          (.op (some 9) (.p (.mv (.tmp 8)))
          (.g 9 true (some 10) (.p (.fad (.tmp 1) 1))
          (.g 9 true (some 11) (.r (.ld false 1 (.tmp 10)))
          (.g 9 true (some 12) (.p (.mv (.tmp 3)))
          (.g 9 true (some 13) (.p (.bin .sub (.tmp 12) (.const (.int .i64 1))))
          (.g 9 true (some 14) (.p (.iad 1 (.tmp 11) (.tmp 13)))
          (.g 9 true (some 15) (.r (.ld false 1 (.tmp 14)))
          (.g 9 true (some 16) (.p (.bin .eql (.tmp 15) (.const (.int .i64 0))))
          (.op (some 17) (.p (.pick (.tmp 9) (.tmp 16) (.const (.bool false))))
          (.ite (.tmp 17)
            .done
            (.exit 0))))))))))))))
        (.block 1
          (.hook 3 (.op (some 18) (.p (.mv (.tmp 3)))
          (.op (some 19) (.p (.bin .sub (.tmp 18) (.const (.int .i64 1))))
          (.op (some 3) (.p (.mv (.tmp 19)))
          .done))))))))
  (.hook 4 (.op (some 20) (.p (.fad (.tmp 1) 0))
  (.op (some 21) (.r (.ld false 1 (.tmp 20)))
  (.op (some 22) (.p (.mv (.tmp 21)))
  (.g 22 true (some 23) (.p (.mv (.tmp 3)))
  (.g 22 true (some 24) (.p (.bin .gtr (.tmp 23) (.const (.int .i64 0))))
  (.op (some 25) (.p (.pick (.tmp 22) (.tmp 24) (.const (.bool false))))
  (.op (some 26) (.p (.fad (.tmp 1) 1))
  (.op (some 27) (.r (.ld false 1 (.tmp 26)))
  (.op (some 28) (.p (.mv (.tmp 3)))
  (.op (some 29) (.p (.slc 1 (.tmp 27) none (some (.tmp 28)) none))
  (.op (some 30) (.p (.build [(.bool false), (.slice none 0 0)] [(0, (1, (false, (.tmp 25)))), (1, (1, (false, (.tmp 29))))]))
  (.op none (.w (.st true 2 (.tmp 2) (.tmp 30)))
  .ret))))))))))))))))))))))
theorem k64 : compF Tryd.prog 64 = some (c64, [(.c 2 true 2)], 31) := by kernel_rfl
/- "hallmark/hallmarkref01.read" -/
def c46 : S :=
  (.hook 0 (.op (some 2) (.w (.alloc 2 [(.bool false), (.slice none 0 0)]))
  (.hook 1 (.op (some 3) (.w (.alloc 2 [(.bool false), (.slice none 0 0)]))
  (.hook 2 (.op (some 4) (.p (.mv (.const (.int .i64 0))))
  (.sq 3
    (.hook 3 (.op (some 6) (.p (.mv (.tmp 0)))
    (.op (some 7) (.p (.sidx (.tmp 6) (.const (.int .i64 0))))
    (.op (some 8) (.p (.bin .eql (.tmp 7) (.const (.int .u8 45))))
    (.ite (.tmp 8)
      (.hook 4 (.op (some 9) (.p (.fad (.tmp 3) 0))
      (.op none (.w (.st false 1 (.tmp 9) (.const (.bool true))))
      (.hook 5 (.op (some 4) (.p (.mv (.const (.int .i64 1))))
      .done)))))
      .done)))))
  (.sq 6
    (.hook 6 (.op (some 10) (.p (.mv (.tmp 0)))
    (.op (some 11) (.p (.lens (.tmp 10)))
    (.op (some 12) (.p (.bin .sub (.tmp 11) (.const (.int .i64 1))))
    (.op (some 5) (.p (.mv (.tmp 12)))
    (.block 0
      (.loop
        (.sq 7
          (.hook 7 (.op (some 13) (.p (.mv (.tmp 5)))
          (.op (some 14) (.p (.mv (.tmp 4)))
          (.op (some 15) (.p (.bin .geq (.tmp 13) (.tmp 14)))
          (.ite (.tmp 15)
            .done
            (.exit 0))))))
        (.sq 9
          (.block 1
            (.hook 9 (.op (some 18) (.p (.fad (.tmp 3) 1))
            (.op (some 19) (.r (.ld false 1 (.tmp 18)))
            (.op (some 20) (.p (.mv (.tmp 0)))
            (.op (some 21) (.p (.mv (.tmp 5)))
            (.op (some 22) (.p (.sidx (.tmp 20) (.tmp 21)))
            (.op (some 23) (.p (.bin .sub (.tmp 22) (.const (.int .u8 48))))
            (.op (some 24) (.p (.toInt .i64 (.tmp 23)))
            (.op (some 25) (.l 1 1 [(.int .i64 0)] [(0, (1, (false, (.tmp 24))))])
            (.op (some 26) (.w (.app 3000 1 8 (.tmp 19) (.tmp 25)))
            (.op (some 27) (.p (.fad (.tmp 3) 1))
            (.op none (.w (.st false 1 (.tmp 27) (.tmp 26)))
            .done)))))))))))))
        (.hook 8 (.op (some 16) (.p (.mv (.tmp 5)))
        (.op (some 17) (.p (.bin .sub (.tmp 16) (.const (.int .i64 1))))
        (.op (some 5) (.p (.mv (.tmp 17)))
        .done)))))))))))))
  (.hook 10 (.op (some 28) (.r (.ld true 2 (.tmp 3)))
  (.op (some 29) (.w (.call 64 [(.tmp 28)]))
  (.op none (.w (.st true 2 (.tmp 2) (.tmp 29)))
  .ret))))))))))))
theorem k46 : compF Tryd.prog 46 = some (c46, [(.c 2 true 2)], 30) := by kernel_rfl
open Go.XW.DI hiding fm body sgn sizeI digs

def numD (b : Bool) (ds : List Int) : V := .agg [vbool b, .row 1 (rInts .i64 ds)]
def numV (z : Int) : V := numD (decide (z < 0)) (lod z.natAbs)

theorem lval_take0 {ds : List Int} {n : Nat} (hn : n < ds.length) (h0 : ds.getD n 0 = 0) : lval (ds.take (n + 1)) = lval (ds.take n) := by
  rw [take_getD hn, lval_append, h0]; simp [lval]
theorem lod_trim {ds : List Int} (hd : Dg ds) {n : Nat} (hn : n ≤ ds.length) (hv : lval (ds.take n) = lval ds) (hl : n = 0 ∨ ds.getD (n - 1) 0 ≠ 0) : ds.take n = lod (lval ds).toNat := by
  rw [← hv]
  refine lod_unique (fun x hx => hd x (List.mem_of_mem_take hx)) ?_
  rcases hl with rfl | hl
  · exact .inl (by simp)
  · by_cases h0 : n = 0
    · subst h0; exact .inl (by simp)
    · refine .inr ?_
      rw [List.getLast?_eq_getElem?, List.length_take, show min n ds.length = n by omega, List.getElem?_take, if_pos (by omega)]
      have : n - 1 < ds.length := by omega
      intro he
      apply hl
      simp [List.getD, he]

theorem trim_calls (b : Bool) (ds : List Int) (h : Hp) (hd : Dg ds) (hm : ds.length ≤ 1000000000000000) : VCalls Tryd.prog 64 [numD b ds] h (fun v h' => v = numV (if b then - lval ds else lval ds) ∧ h' = h) := by
  refine xc k64 rfl ?_
  refine run ?_
  refine new_k fun k1 => ?_
  refine run ?_
  refine new_k fun k2 => ?_
  refine runto 2 ?_
  refine jn (fun n : Nat => [(1, .ptr 2 k1 0 0), (2, .ptr 2 k2 0 0), (3, int n)]) (fun _ => (k2, .blk 2 [[vbool false, vnil]]) :: (k1, .blk 2 [[vbool b, .row 1 (rInts .i64 ds)]]) :: h) (fun n => n ≤ ds.length ∧ ds.take n = lod (lval ds).toNat) ?_ ?_
  · refine run ?_
    refine lp (fun n : Nat => [(1, .ptr 2 k1 0 0), (2, .ptr 2 k2 0 0), (3, int n)]) (fun _ => (k2, .blk 2 [[vbool false, vnil]]) :: (k1, .blk 2 [[vbool b, .row 1 (rInts .i64 ds)]]) :: h) (fun n => n ≤ ds.length ∧ lval (ds.take n) = lval ds) (fun n => n) (wkx ds.length ⟨by omega, by rw [List.take_of_length_le (Nat.le_refl _)]⟩ fits rfl) ?_
    rintro n ⟨hn, hv⟩
    have key : ¬ (0 < n ∧ ds.getD (n - 1) 0 = 0) → ds.take n = lod (lval ds).toNat := fun hh => lod_trim hd hn hv (by by_cases h0 : n = 0; exact .inl h0; exact .inr fun he => hh ⟨by omega, he⟩)
    have hi : ((n : Int) - 1).toNat = n - 1 := by omega
    refine run ?_
    refine br_d (fun hb => ?_) (fun hb => ?_)
    · refine run ?_
      refine br_d (fun hc => ?_) (fun hc => ?_)
      · refine run ?_
        refine wkx (n - 1) ⟨⟨by omega, ?_⟩, by omega⟩ fits rfl
        rw [hi] at hc
        rw [← hv, show n = (n - 1) + 1 by omega, lval_take0 (by omega) hc]
        rfl
      · refine run ?_
        refine wkx n ⟨by omega, key fun hh => hc (by rw [hi]; exact hh.2)⟩ fits rfl
    · refine run ?_
      refine wkx n ⟨by omega, key fun hh => hb (by omega)⟩ fits rfl
  rintro n ⟨hn, hk⟩
  have hnn := lval_nonneg hd
  have hll : (lod (lval ds).toNat).length = n := by rw [← hk]; simp; omega
  have h0 : 0 < lval ds ↔ 0 < n := by
    by_cases h0 : lval ds = 0
    · rw [h0] at hll; simp [lod_zero] at hll; omega
    · have := lod_ne (n := (lval ds).toNat) (by omega)
      have : n ≠ 0 := fun hc => this (List.length_eq_zero_iff.1 (by omega))
      omega
  cases b with
  | true =>
    refine run ?_
    refine ret1 (ret1 (retv ⟨?_, rfl⟩))
    have e2 : (lval ds).toNat = (-lval ds).natAbs := by omega
    show V.agg [vbool (decide ((0 : Int) < n)), .row 1 (rInts .i64 ((ds.take n).drop 0))] = numV (- lval ds)
    rw [List.drop_zero, hk, numV, numD, e2, show decide ((0 : Int) < n) = decide (-lval ds < 0) from decide_eq_decide.2 (by omega)]
  | false =>
    refine run ?_
    refine ret1 (ret1 (retv ⟨?_, rfl⟩))
    have e2 : (lval ds).toNat = (lval ds).natAbs := by omega
    show V.agg [vbool false, .row 1 (rInts .i64 ((ds.take n).drop 0))] = numV (lval ds)
    rw [List.drop_zero, hk, numV, numD, e2, decide_eq_false (show ¬ lval ds < 0 by omega)]

theorem dgs_drop (ns : List Int) (j : Nat) (hj : j < ns.length) : dgs (ns.drop j) = dgs (ns.drop (j + 1)) ++ [ns.getD j 0 - 48] := by
  rw [drop_getD hj]; simp [dgs]
theorem en_dig (z : Int) : Dig (nums (body (en z))) := by rw [body_en, nums_dc]; exact decs_dig _
theorem en_digD (z : Int) (j : Nat) (hj : sg (en z) ≤ j) (hl : j < (en z).length) : 48 ≤ ((en z).getD j 0).toNat ∧ ((en z).getD j 0).toNat ≤ 57 := by
  have h1 := (en_dig z).getD (k := j - sg (en z)) (by rw [nums_length, body_sg, List.length_drop]; omega)
  rw [nums_getD, body_sg] at h1
  have h2 : ((en z).drop (sg (en z))).getD (j - sg (en z)) 0 = (en z).getD j 0 := by simp only [List.getD, List.getElem?_drop]; congr 2; omega
  rw [h2] at h1; omega
theorem sg_en (z : Int) : sg (en z) = if z < 0 then 1 else 0 := by
  unfold sg
  by_cases h : z < 0
  · rw [if_pos h, if_pos ((head_en z).2 h)]
  · rw [if_neg h, if_neg (fun hc => h ((head_en z).1 hc))]
theorem en_head45 (z : Int) : (((en z).getD 0 0).toNat : Int) = 45 ↔ z < 0 := by
  rw [b45, ← head_en, head_getD (en_ne z)]; simp

theorem read_calls (z : Int) (h : Hp) (hm : (en z).length ≤ 1000000000000) : VCalls Tryd.prog 46 [vstr (en z)] h (fun v h' => v = numV z ∧ h' = h) := by
  refine xc k46 rfl ?_
  refine run ?_
  refine new_k fun k1 => ?_
  refine run ?_
  refine new_k fun k2 => ?_
  refine runto 3 ?_
  have hp : 0 < (en z).length := List.length_pos_iff.2 (en_ne z)
  have hsg := sg_en z
  have hsl := sg_le (en z)
  refine jn (fun x : Nat => [(0, vstr (en z)), (2, .ptr 2 k1 0 0), (3, .ptr 2 k2 0 0), (4, int x)]) (fun x => (k2, .blk 2 [[vbool (decide (z < 0)), vnil]]) :: (k1, .blk 2 [[vbool false, vnil]]) :: h) (fun x => x = sg (en z)) ?_ ?_
  · refine run ?_
    refine br_d (fun hc => ?_) (fun hc => ?_)
    · have hz := (en_head45 z).1 hc
      refine run ?_
      refine wkx 1 (by rw [hsg, if_pos hz]) fits (by rw [decide_eq_true hz])
    · have hz : ¬ z < 0 := fun hz => hc ((en_head45 z).2 hz)
      refine run ?_
      refine wkx 0 (by rw [hsg, if_neg hz]) fits (by rw [decide_eq_false hz])
  rintro x hx
  refine run ?_
  have hnl := nums_length (en z)
  refine lp (fun x2 : Nat × Nat × List Int => [(0, vstr (en z)), (2, .ptr 2 k1 0 0), (3, .ptr 2 k2 0 0), (4, int x), (5, int ((x2.2.1 : Int) - 1))])
    (fun x2 => (x2.1, .blk 1 (rInts .i64 x2.2.2)) :: (k2, .blk 2 [[vbool (decide (z < 0)), .osl 1 x2.1 0 x2.2.2.length]]) :: (k1, .blk 2 [[vbool false, vnil]]) :: h)
    (fun x2 => x ≤ x2.2.1 ∧ x2.2.1 ≤ (en z).length ∧ x2.2.2 = dgs ((nums (en z)).drop x2.2.1)) (fun x2 => x2.2.1)
    (wkn 1 fun k3 => wkh hrs (wkx (k3, (en z).length, []) ⟨by dsimp only; omega, by dsimp only; omega, by rw [List.drop_of_length_le (by dsimp only; omega)]; rfl⟩ fits rfl)) ?_
  rintro ⟨k3, j, ds⟩ ⟨h1, h2, h3⟩
  dsimp only at *
  have hdl : ds.length = (en z).length - j := by rw [h3, dgs_length, List.length_drop, hnl]
  refine run ?_
  refine br_d (fun hb => ?_) (fun hb => ?_)
  · have hd := en_digD z ((j : Int) - 1).toNat (by omega) (by omega)
    have hj : ((j : Int) - 1).toNat = j - 1 := by omega
    refine run ?_
    refine new_k fun k4 => ?_
    refine run ?_
    refine wkx (k4, j - 1, ds ++ [(((en z).getD ((j : Int) - 1).toNat 0).toNat : Int) - 48]) ⟨⟨by dsimp only; omega, by dsimp only; omega, ?_⟩, by dsimp only; omega⟩ fits ?_
    · dsimp only
      rw [dgs_drop _ (j - 1) (by omega), hj, nums_getD, show j - 1 + 1 = j by omega, h3]
    · simp only [List.length_append]; rfl
  · refine run ?_
    have hj : j = sg (en z) := by omega
    have hds : ds = dgs (nums (body (en z))) := by rw [h3, hj, body_sg, nums_drop]
    have hv : lval ds = z.natAbs := by rw [hds, body_en, nums_dc]; exact decs_val _
    have hdg : Dg ds := by rw [hds]; exact (en_dig z).dg
    refine VCalls.fz0 (.cons _ _ _ _ (.agg _ _ _ _ (.same _) (.agg _ _ _ _ (.all _ (by simp [rInts])) .agg0)) .nil) ?_
    refine VCalls.use (trim_calls _ ds _ hdg (by omega)) ?_
    rintro _ _ ⟨rfl, rfl⟩
    rw [hv]
    have e : (if decide (z < 0) then -(z.natAbs : Int) else z.natAbs) = z := by by_cases hz : z < 0 <;> simp [hz] <;> omega
    rw [e]
    refine run ?_
    refine ret1 (ret1 (retv ⟨rfl, rfl⟩))
end Go.Proofs.YtpiicncihccheaaDoor
