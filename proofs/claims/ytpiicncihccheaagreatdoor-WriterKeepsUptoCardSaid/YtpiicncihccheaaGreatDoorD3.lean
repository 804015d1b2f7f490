/- Walks of the reference's literals and lines. -/
import Derived.Test.YtpiicncihccheaaGreatDoorJ0
namespace Go.Proofs.YtpiicncihccheaaGreatDoor
open Go.XW Go.XW.DU Go.Lib Go.XW.U
/- "hallmark/hallmarkref06.word" -/
def c92 : S :=
  (.hook 0 (.op (some 1) (.w (.box true 5 (.tmp 0)))
  (.op (some 2) (.p (.mv (.const (.string ⟨#[]⟩))))
  (.sq 1
    (.hook 1 (.op (some 3) (.p (.fad (.tmp 1) 0))
    (.op (some 4) (.r (.ld false 1 (.tmp 3)))
    (.op (some 5) (.p (.bin .eql (.tmp 4) (.const (.int .i64 0))))
    (.ite (.tmp 5)
      (.hook 2 (.op (some 2) (.p (.mv (.const (.string ⟨#[110, 117, 108, 108]⟩))))
      .ret))
      .done)))))
  (.sq 3
    (.hook 3 (.op (some 6) (.p (.fad (.tmp 1) 0))
    (.op (some 7) (.r (.ld false 1 (.tmp 6)))
    (.op (some 8) (.p (.bin .eql (.tmp 7) (.const (.int .i64 1))))
    (.ite (.tmp 8)
      (.hook 4 (.op (some 2) (.p (.mv (.const (.string ⟨#[102, 97, 108, 115, 101]⟩))))
      .ret))
      .done)))))
  (.sq 5
    (.hook 5 (.op (some 9) (.p (.fad (.tmp 1) 0))
    (.op (some 10) (.r (.ld false 1 (.tmp 9)))
    (.op (some 11) (.p (.bin .eql (.tmp 10) (.const (.int .i64 2))))
    (.ite (.tmp 11)
      (.hook 6 (.op (some 2) (.p (.mv (.const (.string ⟨#[116, 114, 117, 101]⟩))))
      .ret))
      .done)))))
  (.sq 7
    (.hook 7 (.op (some 12) (.p (.fad (.tmp 1) 0))
    (.op (some 13) (.r (.ld false 1 (.tmp 12)))
    (.op (some 14) (.p (.bin .eql (.tmp 13) (.const (.int .i64 3))))
    (.ite (.tmp 14)
      (.hook 8 (.op (some 15) (.p (.fad (.tmp 1) 1))
      (.op (some 16) (.r (.ld false 1 (.tmp 15)))
      (.op (some 2) (.p (.mv (.tmp 16)))
      .ret))))
      .done)))))
  (.hook 9 (.op (some 17) (.p (.fad (.tmp 1) 2))
  (.op (some 18) (.r (.ld false 1 (.tmp 17)))
  (.op (some 19) (.w (.call 94 [(.tmp 18)]))
  (.op (some 2) (.p (.mv (.tmp 19)))
  .ret))))))))))))
theorem k92 : compF Tryz.prog 92 = some (c92, [(.t 2)], 20) := by kernel_rfl
/- "hallmark/hallmarkref06.line" -/
def c93 : S :=
  (.hook 0 (.op (some 4) (.p (.mv (.const (.string ⟨#[]⟩))))
  (.sq 1
    (.hook 1 (.op (some 7) (.p (.mv (.tmp 1)))
    (.op (some 8) (.p (.bin .lss (.tmp 7) (.const (.int .i64 0))))
    (.ite (.tmp 8)
      (.hook 2 (.op (some 4) (.p (.mv (.const (.string ⟨#[]⟩))))
      .ret))
      .done))))
  (.hook 3 (.op (some 9) (.w (.lit true 1 1 [(.int .u8 0)] [(0, (1, (false, (.const (.int .u8 10)))))]))
  (.op (some 5) (.p (.mv (.tmp 9)))
  (.sq 4
    (.hook 4 (.op (some 6) (.p (.mv (.const (.int .i64 0))))
    (.block 0
      (.loop
        (.sq 5
          (.hook 5 (.op (some 10) (.p (.mv (.tmp 6)))
          (.op (some 11) (.p (.mv (.tmp 0)))
          (.op (some 12) (.p (.mv (.tmp 1)))
          (.op (some 13) (.p (.bin .mul (.tmp 11) (.tmp 12)))
          (.op (some 14) (.p (.bin .lss (.tmp 10) (.tmp 13)))
          (.ite (.tmp 14)
            .done
            (.exit 0))))))))
        (.sq 7
          (.block 1
            (.hook 7 (.op (some 17) (.p (.mv (.tmp 5)))
            (.op (some 18) (.l 1 1 [(.int .u8 0)] [(0, (1, (false, (.const (.int .u8 32)))))])
            (.op (some 19) (.w (.app 5000 1 1 (.tmp 17) (.tmp 18)))
            (.op (some 5) (.p (.mv (.tmp 19)))
            .done))))))
        (.hook 6 (.op (some 15) (.p (.mv (.tmp 6)))
        (.op (some 16) (.p (.bin .add (.tmp 15) (.const (.int .i64 1))))
        (.op (some 6) (.p (.mv (.tmp 16)))
        .done))))))))))
  (.hook 8 (.op (some 20) (.p (.mv (.tmp 5)))
  (.op (some 21) (.r (.txt (.tmp 20)))
  (.op (some 4) (.p (.mv (.tmp 21)))
  .ret)))))))))))
theorem k93 : compF Tryz.prog 93 = some (c93, [(.t 4)], 22) := by kernel_rfl
/- "hallmark/hallmarkref06.Quote" -/
def c94 : S :=
  (.hook 0 (.op (some 2) (.p (.mv (.const (.string ⟨#[]⟩))))
  (.hook 1 (.op (some 6) (.w (.lit true 1 1 [(.int .u8 0)] [(0, (1, (false, (.const (.int .u8 34)))))]))
  (.op (some 3) (.p (.mv (.tmp 6)))
  (.sq 2
    (.hook 2 (.op (some 4) (.p (.mv (.const (.int .i64 0))))
    (.block 0
      (.loop
        (.sq 3
          (.hook 3 (.op (some 7) (.p (.mv (.tmp 4)))
          (.op (some 8) (.p (.mv (.tmp 0)))
          (.op (some 9) (.p (.lens (.tmp 8)))
          (.op (some 10) (.p (.bin .lss (.tmp 7) (.tmp 9)))
          (.ite (.tmp 10)
            .done
            (.exit 0)))))))
        (.sq 5
          (.block 1
            (.hook 5 (.op (some 13) (.p (.mv (.tmp 0)))
            (.op (some 14) (.p (.mv (.tmp 4)))
            (.op (some 15) (.p (.sidx (.tmp 13) (.tmp 14)))
            (.op (some 5) (.p (.mv (.tmp 15)))
            (.hook 6 (.op (some 16) (.p (.mv (.tmp 5)))
            (.op (some 17) (.p (.bin .eql (.tmp 16) (.const (.int .u8 34))))
            (.op (some 18) (.p (.mv (.tmp 17)))
            (.g 18 false (some 19) (.p (.mv (.tmp 5)))
            (.g 18 false (some 20) (.p (.bin .eql (.tmp 19) (.const (.int .u8 92))))
            (.op (some 21) (.p (.pick (.tmp 18) (.const (.bool true)) (.tmp 20)))
            (.ite (.tmp 21)
              (.hook 7 (.op (some 22) (.p (.mv (.tmp 3)))
              (.op (some 23) (.p (.mv (.tmp 5)))
              (.op (some 24) (.l 1 2 [(.int .u8 0)] [(0, (1, (false, (.const (.int .u8 92))))), (1, (1, (false, (.tmp 23))))])
              (.op (some 25) (.w (.app 5000 1 1 (.tmp 22) (.tmp 24)))
              (.op (some 3) (.p (.mv (.tmp 25)))
              .done))))))
              (.hook 8 (.op (some 26) (.p (.mv (.tmp 5)))
              (.op (some 27) (.p (.bin .eql (.tmp 26) (.const (.int .u8 8))))
              (.ite (.tmp 27)
                (.hook 9 (.op (some 28) (.p (.mv (.tmp 3)))
                (.op (some 29) (.l 1 2 [(.int .u8 0)] [(0, (1, (false, (.const (.int .u8 92))))), (1, (1, (false, (.const (.int .u8 98)))))])
                (.op (some 30) (.w (.app 5000 1 1 (.tmp 28) (.tmp 29)))
                (.op (some 3) (.p (.mv (.tmp 30)))
                .done)))))
                (.hook 10 (.op (some 31) (.p (.mv (.tmp 5)))
                (.op (some 32) (.p (.bin .eql (.tmp 31) (.const (.int .u8 12))))
                (.ite (.tmp 32)
                  (.hook 11 (.op (some 33) (.p (.mv (.tmp 3)))
                  (.op (some 34) (.l 1 2 [(.int .u8 0)] [(0, (1, (false, (.const (.int .u8 92))))), (1, (1, (false, (.const (.int .u8 102)))))])
                  (.op (some 35) (.w (.app 5000 1 1 (.tmp 33) (.tmp 34)))
                  (.op (some 3) (.p (.mv (.tmp 35)))
                  .done)))))
                  (.hook 12 (.op (some 36) (.p (.mv (.tmp 5)))
                  (.op (some 37) (.p (.bin .eql (.tmp 36) (.const (.int .u8 10))))
                  (.ite (.tmp 37)
                    (.hook 13 (.op (some 38) (.p (.mv (.tmp 3)))
                    (.op (some 39) (.l 1 2 [(.int .u8 0)] [(0, (1, (false, (.const (.int .u8 92))))), (1, (1, (false, (.const (.int .u8 110)))))])
                    (.op (some 40) (.w (.app 5000 1 1 (.tmp 38) (.tmp 39)))
                    (.op (some 3) (.p (.mv (.tmp 40)))
                    .done)))))
                    (.hook 14 (.op (some 41) (.p (.mv (.tmp 5)))
                    (.op (some 42) (.p (.bin .eql (.tmp 41) (.const (.int .u8 13))))
                    (.ite (.tmp 42)
                      (.hook 15 (.op (some 43) (.p (.mv (.tmp 3)))
                      (.op (some 44) (.l 1 2 [(.int .u8 0)] [(0, (1, (false, (.const (.int .u8 92))))), (1, (1, (false, (.const (.int .u8 114)))))])
                      (.op (some 45) (.w (.app 5000 1 1 (.tmp 43) (.tmp 44)))
                      (.op (some 3) (.p (.mv (.tmp 45)))
                      .done)))))
                      (.hook 16 (.op (some 46) (.p (.mv (.tmp 5)))
                      (.op (some 47) (.p (.bin .eql (.tmp 46) (.const (.int .u8 9))))
                      (.ite (.tmp 47)
                        (.hook 17 (.op (some 48) (.p (.mv (.tmp 3)))
                        (.op (some 49) (.l 1 2 [(.int .u8 0)] [(0, (1, (false, (.const (.int .u8 92))))), (1, (1, (false, (.const (.int .u8 116)))))])
                        (.op (some 50) (.w (.app 5000 1 1 (.tmp 48) (.tmp 49)))
                        (.op (some 3) (.p (.mv (.tmp 50)))
                        .done)))))
                        (.hook 18 (.op (some 51) (.p (.mv (.tmp 5)))
                        (.op (some 52) (.p (.bin .lss (.tmp 51) (.const (.int .u8 32))))
                        (.op (some 53) (.p (.mv (.tmp 52)))
                        (.g 53 false (some 54) (.p (.mv (.tmp 5)))
                        (.g 53 false (some 55) (.p (.bin .eql (.tmp 54) (.const (.int .u8 127))))
                        (.op (some 56) (.p (.pick (.tmp 53) (.const (.bool true)) (.tmp 55)))
                        (.ite (.tmp 56)
                          (.hook 19 (.op (some 57) (.p (.mv (.tmp 3)))
                          (.op (some 58) (.p (.mv (.tmp 5)))
                          (.op (some 59) (.p (.bin .shr (.tmp 58) (.const (.int .u64 4))))
                          (.op (some 60) (.w (.call 114 [(.tmp 59)]))
                          (.op (some 61) (.p (.mv (.tmp 5)))
                          (.op (some 62) (.p (.bin .and (.tmp 61) (.const (.int .u8 15))))
                          (.op (some 63) (.w (.call 114 [(.tmp 62)]))
                          (.op (some 64) (.l 1 6 [(.int .u8 0)] [(0, (1, (false, (.const (.int .u8 92))))), (1, (1, (false, (.const (.int .u8 117))))), (2, (1, (false, (.const (.int .u8 48))))), (3, (1, (false, (.const (.int .u8 48))))), (4, (1, (false, (.tmp 60)))), (5, (1, (false, (.tmp 63))))])
                          (.op (some 65) (.w (.app 5000 1 1 (.tmp 57) (.tmp 64)))
                          (.op (some 3) (.p (.mv (.tmp 65)))
                          .done)))))))))))
                          (.hook 20 (.op (some 66) (.p (.mv (.tmp 3)))
                          (.op (some 67) (.p (.mv (.tmp 5)))
                          (.op (some 68) (.l 1 1 [(.int .u8 0)] [(0, (1, (false, (.tmp 67))))])
                          (.op (some 69) (.w (.app 5000 1 1 (.tmp 66) (.tmp 68)))
                          (.op (some 3) (.p (.mv (.tmp 69)))
                          .done))))))))))))))))))))))))))))))))))))))))))))))))
        (.hook 4 (.op (some 11) (.p (.mv (.tmp 4)))
        (.op (some 12) (.p (.bin .add (.tmp 11) (.const (.int .i64 1))))
        (.op (some 4) (.p (.mv (.tmp 12)))
        .done))))))))))
  (.hook 21 (.op (some 70) (.p (.mv (.tmp 3)))
  (.op (some 71) (.l 1 1 [(.int .u8 0)] [(0, (1, (false, (.const (.int .u8 34)))))])
  (.op (some 72) (.w (.app 5000 1 1 (.tmp 70) (.tmp 71)))
  (.op (some 3) (.p (.mv (.tmp 72)))
  (.hook 22 (.op (some 73) (.p (.mv (.tmp 3)))
  (.op (some 74) (.r (.txt (.tmp 73)))
  (.op (some 2) (.p (.mv (.tmp 74)))
  .ret)))))))))))))))
theorem k94 : compF Tryz.prog 94 = some (c94, [(.t 2)], 75) := by kernel_rfl
/- "hallmark/hallmarkref06.hex" -/
def c114 : S :=
  (.hook 0 (.op (some 2) (.p (.mv (.const (.int .u8 0))))
  (.sq 1
    (.hook 1 (.op (some 3) (.p (.mv (.tmp 0)))
    (.op (some 4) (.p (.bin .lss (.tmp 3) (.const (.int .u8 10))))
    (.ite (.tmp 4)
      (.hook 2 (.op (some 5) (.p (.mv (.tmp 0)))
      (.op (some 6) (.p (.bin .add (.const (.int .u8 48)) (.tmp 5)))
      (.op (some 2) (.p (.mv (.tmp 6)))
      .ret))))
      .done))))
  (.hook 3 (.op (some 7) (.p (.mv (.tmp 0)))
  (.op (some 8) (.p (.bin .add (.const (.int .u8 97)) (.tmp 7)))
  (.op (some 9) (.p (.bin .sub (.tmp 8) (.const (.int .u8 10))))
  (.op (some 2) (.p (.mv (.tmp 9)))
  .ret))))))))
theorem k114 : compF Tryz.prog 114 = some (c114, [(.t 2)], 10) := by kernel_rfl
theorem app_bytes {acc bs : List UInt8} {es2 : List (List V)} {n : Nat} {K : List (List V) → Nat → Prop} (he : es2 = rInts .u8 (nums bs)) (hn : acc.length = n) (h : K (rInts .u8 (nums (acc ++ bs))) (n + bs.length)) : AppE (rInts .u8 (nums acc)) es2 n K := by
  subst he
  refine app_ints (by rw [bnums]; exact hn) ?_
  rw [← nums_append, bnums]
  exact h
theorem app_bytes2 {acc bs acc2 : List UInt8} {es2 : List (List V)} {n : Nat} {K : List (List V) → Nat → Prop} (he : es2 = rInts .u8 (nums bs)) (hn : acc.length = n) (h2 : acc ++ bs = acc2) (h : K (rInts .u8 (nums acc2)) acc2.length) : AppE (rInts .u8 (nums acc)) es2 n K := by
  subst h2 hn
  refine app_bytes he rfl ?_
  rwa [List.length_append] at h
theorem hex_small : ∀ n : Fin 16, (hexd n.val).toNat = if n.val < 10 then 48 + n.val else 87 + n.val := by decide +kernel
theorem hex_calls (n : Nat) (hn : n < 16) (h : Hp) : VCalls Tryz.prog 114 [.v (.int .u8 (n : Int))] h (fun v h' => v = .v (.int .u8 ((hexd n).toNat : Int)) ∧ h' = h) := by
  have hh := hex_small ⟨n, hn⟩
  dsimp only at hh
  rw [hh]
  refine xc k114 rfl ?_
  refine run ?_
  refine br_d (fun hb => ?_) (fun hb => ?_)
  · rw [if_pos (by omega)]
    refine run ?_
    refine retv ⟨?_, rfl⟩
    refine vint_eq ?_
    omega
  · rw [if_neg (by omega)]
    refine run ?_
    refine retv ⟨?_, rfl⟩
    refine vint_eq ?_
    omega
theorem bits_byte : ∀ n : Fin 128, bits .and .u8 (n.val : Int) 15 = ((n.val % 16 : Nat) : Int) := by decide +kernel
theorem shr_byte : ∀ n : Fin 128, (n.val : Int).fdiv (2 ^ min (Int.toNat 4) IntKind.u8.bits) = ((n.val / 16 : Nat) : Int) := by decide +kernel
theorem qb_ctl2 (c : UInt8) (hc : c.toNat < 32 ∨ c.toNat = 127) (hne : c ≠ 34 ∧ c ≠ 92 ∧ c ≠ 8 ∧ c ≠ 12 ∧ c ≠ 10 ∧ c ≠ 13 ∧ c ≠ 9) : qb c = [92, 117, 48, 48, hexd (c.toNat / 16), hexd (c.toNat % 16)] := by
  obtain ⟨h1, h2, h3, h4, h5, h6, h7⟩ := hne
  unfold qb
  rw [if_neg (by rintro (he | he); exact h1 he; exact h2 he), if_neg h3, if_neg h4, if_neg h5, if_neg h6, if_neg h7, if_pos]
  rcases hc with hc | hc
  · exact .inl hc
  · exact .inr (UInt8.toNat_inj.1 hc)
theorem qb_plain2 (c : UInt8) (hc : ¬ (c.toNat < 32 ∨ c.toNat = 127)) (hne : c ≠ 34 ∧ c ≠ 92) : qb c = [c] := by
  have e : ∀ k : UInt8, k.toNat < 32 → c ≠ k := fun k hk he => by subst he; omega
  unfold qb
  rw [if_neg (by rintro (he | he); exact hne.1 he; exact hne.2 he), if_neg (e _ (by decide)), if_neg (e _ (by decide)), if_neg (e _ (by decide)), if_neg (e _ (by decide)), if_neg (e _ (by decide)), if_neg]
  rintro (he | he)
  · exact hc (.inl he)
  · subst he; exact hc (.inr rfl)
theorem rquote_calls (l : List UInt8) (h : Hp) (hl : l.length < 2 ^ 30) : VCalls Tryz.prog 94 [vstr l] h (fun v h' => v = vstr (quote l) ∧ h' = h) := by
  refine xc k94 rfl ?_
  refine run ?_
  refine new_k fun k0 => ?_
  refine run ?_
  refine lp (fun x : Nat × Nat => [(0, vstr l), (3, .osl 1 x.2 0 ([34] ++ (l.take x.1).flatMap qb).length), (4, int x.1)]) (fun x => (x.2, .blk 1 (rInts .u8 (nums ([34] ++ (l.take x.1).flatMap qb)))) :: h) (fun x => x.1 ≤ l.length) (fun x => l.length - x.1) (wkx (0, k0) (by simp) fits rfl) ?_
  rintro ⟨i, k⟩ hi
  dsimp only at hi ⊢
  have hfl : ((l.take i).flatMap qb).length ≤ 6 * l.length := Nat.le_trans (flat_len _) (by rw [List.length_take]; omega)
  have hal : ([34] ++ (l.take i).flatMap qb).length ≤ 6 * l.length + 1 := by simp only [List.length_append, List.length_cons, List.length_nil]; omega
  refine runto 5 ?_
  refine br_d (fun hb => ?_) (fun hb => ?_)
  · have hb' : i < l.length := by omega
    have htake : l.take (i + 1) = l.take i ++ [l.getD i 0] := by
      rw [List.take_add_one, List.getElem?_eq_getElem hb']; simp [List.getD, hb']
    have hacc : ∀ bs, qb (l.getD i 0) = bs → [34] ++ (l.take i).flatMap qb ++ bs = [34] ++ (l.take (i + 1)).flatMap qb := by
      intro bs he
      rw [htake, List.flatMap_append, List.append_assoc, ← he]; simp
    refine runto 5 ?_
    generalize hc : l.getD i 0 = c at hacc
    have ha2 : ([34] ++ (l.take (i + 1)).flatMap qb).length ≤ 6 * l.length + 1 := by
      have := flat_len (l.take (i + 1))
      rw [List.length_take] at this
      simp only [List.length_append, List.length_cons, List.length_nil]; omega
    refine jn (fun k' : Nat => [(0, vstr l), (3, .osl 1 k' 0 ([34] ++ (l.take (i + 1)).flatMap qb).length), (4, int i)]) (fun k' => (k', .blk 1 (rInts .u8 (nums ([34] ++ (l.take (i + 1)).flatMap qb)))) :: h) (fun _ => True) ?_ ?_
    · refine run ?_
      rw [hc]
      have hcl := c.toNat_lt
      refine br_d (fun h34 => ?_) (fun h34 => ?_)
      · obtain rfl : c = 34 := UInt8.toNat_inj.1 (by simp only [UInt8.reduceToNat]; omega)
        refine run ?_
        refine app_bytes2 (bs := [92, 34]) rfl rfl (hacc _ rfl) ?_
        refine run ?_
        refine new_k fun k' => ?_
        refine run ?_
        exact wkx k' trivial fits rfl
      refine run ?_
      refine br_d (fun h92 => ?_) (fun h92 => ?_)
      · obtain rfl : c = 92 := UInt8.toNat_inj.1 (by simp only [UInt8.reduceToNat]; omega)
        refine run ?_
        refine app_bytes2 (bs := [92, 92]) rfl rfl (hacc _ rfl) ?_
        refine run ?_
        refine new_k fun k' => ?_
        refine run ?_
        exact wkx k' trivial fits rfl
      refine run ?_
      refine br_d (fun h8 => ?_) (fun h8 => ?_)
      · obtain rfl : c = 8 := UInt8.toNat_inj.1 (by simp only [UInt8.reduceToNat]; omega)
        refine run ?_
        refine app_bytes2 (bs := [92, 98]) rfl rfl (hacc _ rfl) ?_
        refine run ?_
        refine new_k fun k' => ?_
        refine run ?_
        exact wkx k' trivial fits rfl
      refine run ?_
      refine br_d (fun h12 => ?_) (fun h12 => ?_)
      · obtain rfl : c = 12 := UInt8.toNat_inj.1 (by simp only [UInt8.reduceToNat]; omega)
        refine run ?_
        refine app_bytes2 (bs := [92, 102]) rfl rfl (hacc _ rfl) ?_
        refine run ?_
        refine new_k fun k' => ?_
        refine run ?_
        exact wkx k' trivial fits rfl
      refine run ?_
      refine br_d (fun h10 => ?_) (fun h10 => ?_)
      · obtain rfl : c = 10 := UInt8.toNat_inj.1 (by simp only [UInt8.reduceToNat]; omega)
        refine run ?_
        refine app_bytes2 (bs := [92, 110]) rfl rfl (hacc _ rfl) ?_
        refine run ?_
        refine new_k fun k' => ?_
        refine run ?_
        exact wkx k' trivial fits rfl
      refine run ?_
      refine br_d (fun h13 => ?_) (fun h13 => ?_)
      · obtain rfl : c = 13 := UInt8.toNat_inj.1 (by simp only [UInt8.reduceToNat]; omega)
        refine run ?_
        refine app_bytes2 (bs := [92, 114]) rfl rfl (hacc _ rfl) ?_
        refine run ?_
        refine new_k fun k' => ?_
        refine run ?_
        exact wkx k' trivial fits rfl
      refine run ?_
      refine br_d (fun h9 => ?_) (fun h9 => ?_)
      · obtain rfl : c = 9 := UInt8.toNat_inj.1 (by simp only [UInt8.reduceToNat]; omega)
        refine run ?_
        refine app_bytes2 (bs := [92, 116]) rfl rfl (hacc _ rfl) ?_
        refine run ?_
        refine new_k fun k' => ?_
        refine run ?_
        exact wkx k' trivial fits rfl
      have hne : ∀ k : UInt8, ¬ (c.toNat : Int) = k.toNat → c ≠ k := fun k hk he => hk (by rw [he])
      have hn7 : c ≠ 34 ∧ c ≠ 92 ∧ c ≠ 8 ∧ c ≠ 12 ∧ c ≠ 10 ∧ c ≠ 13 ∧ c ≠ 9 := ⟨hne _ h34, hne _ h92, hne _ h8, hne _ h12, hne _ h10, hne _ h13, hne _ h9⟩
      refine run ?_
      refine br_d (fun h32 => ?_) (fun h32 => ?_)
      · refine run ?_
        have hsh := shr_byte ⟨c.toNat, by omega⟩
        have han := bits_byte ⟨c.toNat, by omega⟩
        dsimp only at hsh han
        rw [hsh]
        refine VCalls.use (hex_calls _ (by omega) _) ?_
        rintro _ _ ⟨rfl, rfl⟩
        refine run ?_
        rw [han]
        refine VCalls.use (hex_calls _ (by omega) _) ?_
        rintro _ _ ⟨rfl, rfl⟩
        refine run ?_
        refine app_bytes2 (bs := [92, 117, 48, 48, hexd (c.toNat / 16), hexd (c.toNat % 16)]) rfl rfl (hacc _ (qb_ctl2 c (by omega) hn7)) ?_
        refine run ?_
        refine new_k fun k' => ?_
        refine run ?_
        exact wkx k' trivial fits rfl
      · refine run ?_
        refine br_d (fun h127 => ?_) (fun h127 => ?_)
        · refine run ?_
          have hsh := shr_byte ⟨c.toNat, by omega⟩
          have han := bits_byte ⟨c.toNat, by omega⟩
          dsimp only at hsh han
          rw [hsh]
          refine VCalls.use (hex_calls _ (by omega) _) ?_
          rintro _ _ ⟨rfl, rfl⟩
          refine run ?_
          rw [han]
          refine VCalls.use (hex_calls _ (by omega) _) ?_
          rintro _ _ ⟨rfl, rfl⟩
          refine run ?_
          refine app_bytes2 (bs := [92, 117, 48, 48, hexd (c.toNat / 16), hexd (c.toNat % 16)]) rfl rfl (hacc _ (qb_ctl2 c (by omega) hn7)) ?_
          refine run ?_
          refine new_k fun k' => ?_
          refine run ?_
          exact wkx k' trivial fits rfl
        refine run ?_
        refine app_bytes2 (bs := [c]) rfl rfl (hacc _ (qb_plain2 c (by omega) ⟨hn7.1, hn7.2.1⟩)) ?_
        refine run ?_
        refine new_k fun k' => ?_
        refine run ?_
        exact wkx k' trivial fits rfl
    · rintro k' -
      refine run ?_
      exact wkx (i + 1, k') ⟨by dsimp only; omega, by dsimp only; omega⟩ fits rfl
  · obtain rfl : i = l.length := by omega
    rw [List.take_length] at *
    refine run ?_
    refine app_bytes2 (bs := [34]) rfl rfl (acc2 := quote l) rfl ?_
    have hq := quote_len l
    refine run ?_
    refine new_k fun k' => ?_
    have hbn := bnums (quote l)
    refine run ?_
    refine ret1 (retv ?_)
    refine ⟨?_, rfl⟩
    show vstr (ofNums (List.drop 0 (List.take (0 + (quote l).length) (nums (quote l))))) = vstr (quote l)
    rw [List.drop_zero, Nat.zero_add, List.take_of_length_le (by omega), ofNums_nums]
theorem txt_all (l : List UInt8) : ofNums (List.drop 0 (List.take (0 + l.length) (nums l))) = l := by
  rw [List.drop_zero, Nat.zero_add, List.take_of_length_le (by rw [bnums]; omega), ofNums_nums]
theorem rline_calls (d st : Int) (h : Hp) (hd : 0 ≤ d ∧ d < 2 ^ 40) (hs : st ≤ 8) : VCalls Tryz.prog 93 [int d, int st] h (fun v h' => v = vstr (lineL d st) ∧ h' = h) := by
  refine xc k93 rfl ?_
  refine runto 4 ?_
  unfold lineL
  refine br_d (fun hb => ?_) (fun hb => ?_)
  · rw [if_pos hb]
    refine run ?_
    exact retv ⟨rfl, rfl⟩
  rw [if_neg hb]
  obtain ⟨m, hm⟩ : ∃ m : Nat, d * st = m := ⟨(d * st).toNat, by have := Int.mul_nonneg hd.1 (show 0 ≤ st by omega); omega⟩
  have hm8 : d * st ≤ d * 8 := Int.mul_le_mul_of_nonneg_left hs hd.1
  have hmn : (d * st).toNat = m := by omega
  rw [hmn]
  refine run ?_
  refine new_k fun k0 => ?_
  refine run ?_
  refine lp (fun x : Nat × Nat => [(0, int d), (1, int st), (5, .osl 1 x.2 0 (10 :: List.replicate x.1 (32 : UInt8)).length), (6, int x.1)]) (fun x => (x.2, .blk 1 (rInts .u8 (nums (10 :: List.replicate x.1 32)))) :: h) (fun x => x.1 ≤ m) (fun x => m - x.1) (wkx (0, k0) (by simp) fits rfl) ?_
  rintro ⟨i, k⟩ hi
  dsimp only at hi ⊢
  have hl1 : (10 :: List.replicate i (32 : UInt8)).length = i + 1 := by simp
  have hl2 : (10 :: List.replicate (i + 1) (32 : UInt8)).length = i + 2 := by simp
  refine run ?_
  rw [hm]
  refine br_d (fun hb2 => ?_) (fun hb2 => ?_)
  · refine run ?_
    refine app_bytes2 (bs := [32]) rfl rfl (acc2 := 10 :: List.replicate (i + 1) (32 : UInt8)) (by rw [List.cons_append, ← List.replicate_succ']) ?_
    refine run ?_
    refine new_k fun k' => ?_
    refine run ?_
    exact wkx (i + 1, k') ⟨by dsimp only; omega, by dsimp only; omega⟩ fits rfl
  · obtain rfl : i = m := by omega
    have hbn := bnums (10 :: List.replicate i (32 : UInt8))
    refine run ?_
    refine ret1 (retv ?_)
    refine ⟨?_, rfl⟩
    show vstr (ofNums (List.drop 0 (List.take (0 + _) _))) = _
    rw [txt_all]
theorem rword_calls (k : Int) (n t : List UInt8) (c3 c4 : V) (h : Hp) (ht : t.length < 2 ^ 30) : VCalls Tryz.prog 92 [.agg [int k, vstr n, vstr t, c3, c4]] h (fun v h' => v = vstr (wordL k n t) ∧ h' = h) := by
  refine xc k92 rfl ?_
  refine run ?_
  refine new_k fun kb => ?_
  refine runto 3 ?_
  unfold wordL
  refine br_d (fun h0 => ?_) (fun h0 => ?_)
  · rw [if_pos h0]
    refine run ?_
    exact ret1 (retv ⟨rfl, rfl⟩)
  rw [if_neg h0]
  refine run ?_
  refine br_d (fun h1 => ?_) (fun h1 => ?_)
  · rw [if_pos h1]
    refine run ?_
    exact ret1 (retv ⟨rfl, rfl⟩)
  rw [if_neg h1]
  refine run ?_
  refine br_d (fun h2 => ?_) (fun h2 => ?_)
  · rw [if_pos h2]
    refine run ?_
    exact ret1 (retv ⟨rfl, rfl⟩)
  rw [if_neg h2]
  refine run ?_
  refine br_d (fun h3 => ?_) (fun h3 => ?_)
  · rw [if_pos h3]
    refine run ?_
    exact ret1 (retv ⟨rfl, rfl⟩)
  rw [if_neg h3]
  refine run ?_
  refine VCalls.use (rquote_calls t _ ht) ?_
  rintro _ _ ⟨rfl, rfl⟩
  refine run ?_
  exact ret1 (retv ⟨rfl, rfl⟩)
end Go.Proofs.YtpiicncihccheaaGreatDoor
