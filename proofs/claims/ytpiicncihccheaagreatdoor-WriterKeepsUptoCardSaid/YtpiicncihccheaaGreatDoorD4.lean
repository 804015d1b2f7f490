/- Walks of the reference's UTF. -/
import Derived.Test.YtpiicncihccheaaGreatDoorD3
import Derived.Test.YtpiicncihccheaaGreatDoorSH
namespace Go.Proofs.YtpiicncihccheaaGreatDoor
open Go.XW Go.XW.DU Go.Lib Go.XW.U
/- "hallmark/hallmarkref03.UTF" -/
def c50 : S :=
  (.hook 0 (.op (some 2) (.p (.mv (.const (.bool false))))
  (.sq 1
    (.hook 1 (.op (some 3) (.p (.mv (.const (.int .i64 0))))
    (.block 0
      (.loop
        (.sq 2
          (.hook 2 (.op (some 5) (.p (.mv (.tmp 3)))
          (.op (some 6) (.p (.mv (.tmp 0)))
          (.op (some 7) (.p (.lens (.tmp 6)))
          (.op (some 8) (.p (.bin .lss (.tmp 5) (.tmp 7)))
          (.ite (.tmp 8)
            .done
            (.exit 0)))))))
        (.block 1
          (.hook 3 (.op (some 9) (.p (.mv (.tmp 0)))
          (.op (some 10) (.p (.mv (.tmp 3)))
          (.op (some 11) (.w (.call 95 [(.tmp 9), (.tmp 10)]))
          (.op (some 4) (.p (.mv (.tmp 11)))
          (.sq 4
            (.hook 4 (.op (some 12) (.p (.mv (.tmp 4)))
            (.op (some 13) (.p (.bin .eql (.tmp 12) (.const (.int .i64 0))))
            (.ite (.tmp 13)
              (.hook 5 (.op (some 2) (.p (.mv (.const (.bool false))))
              .ret))
              .done))))
          (.hook 6 (.op (some 14) (.p (.mv (.tmp 3)))
          (.op (some 15) (.p (.mv (.tmp 4)))
          (.op (some 16) (.p (.bin .add (.tmp 14) (.tmp 15)))
          (.op (some 3) (.p (.mv (.tmp 16)))
          .done)))))))))))))))))
  (.hook 7 (.op (some 2) (.p (.mv (.const (.bool true))))
  .ret)))))
theorem k50 : compF Tryz.prog 50 = some (c50, [(.t 2)], 17) := by kernel_rfl
/- "hallmark/hallmarkref03.width" -/
def c95 : S :=
  (.hook 0 (.op (some 4) (.p (.mv (.const (.int .i64 0))))
  (.hook 1 (.op (some 8) (.p (.mv (.tmp 0)))
  (.op (some 9) (.p (.mv (.tmp 1)))
  (.op (some 10) (.p (.sidx (.tmp 8) (.tmp 9)))
  (.op (some 5) (.p (.mv (.tmp 10)))
  (.sq 2
    (.hook 2 (.op (some 11) (.p (.mv (.tmp 5)))
    (.op (some 12) (.p (.bin .lss (.tmp 11) (.const (.int .u8 128))))
    (.ite (.tmp 12)
      (.hook 3 (.op (some 4) (.p (.mv (.const (.int .i64 1))))
      .ret))
      .done))))
  (.sq 4
    (.hook 4 (.op (some 13) (.p (.mv (.tmp 5)))
    (.op (some 14) (.p (.bin .geq (.tmp 13) (.const (.int .u8 194))))
    (.op (some 15) (.p (.mv (.tmp 14)))
    (.g 15 true (some 16) (.p (.mv (.tmp 5)))
    (.g 15 true (some 17) (.p (.bin .leq (.tmp 16) (.const (.int .u8 223))))
    (.op (some 18) (.p (.pick (.tmp 15) (.tmp 17) (.const (.bool false))))
    (.op (some 19) (.p (.mv (.tmp 18)))
    (.g 19 true (some 20) (.p (.mv (.tmp 0)))
    (.g 19 true (some 21) (.p (.mv (.tmp 1)))
    (.g 19 true (some 22) (.p (.bin .add (.tmp 21) (.const (.int .i64 1))))
    (.g 19 true (some 23) (.w (.call 115 [(.tmp 20), (.tmp 22), (.const (.int .i64 1)), (.const (.int .u8 128)), (.const (.int .u8 191))]))
    (.op (some 24) (.p (.pick (.tmp 19) (.tmp 23) (.const (.bool false))))
    (.ite (.tmp 24)
      (.hook 5 (.op (some 4) (.p (.mv (.const (.int .i64 2))))
      .ret))
      .done))))))))))))))
  (.hook 6 (.op (some 6) (.p (.mv (.const (.int .u8 128))))
  (.hook 7 (.op (some 7) (.p (.mv (.const (.int .u8 191))))
  (.sq 8
    (.hook 8 (.op (some 25) (.p (.mv (.tmp 5)))
    (.op (some 26) (.p (.bin .eql (.tmp 25) (.const (.int .u8 224))))
    (.ite (.tmp 26)
      (.hook 9 (.op (some 6) (.p (.mv (.const (.int .u8 160))))
      .done))
      .done))))
  (.sq 10
    (.hook 10 (.op (some 27) (.p (.mv (.tmp 5)))
    (.op (some 28) (.p (.bin .eql (.tmp 27) (.const (.int .u8 237))))
    (.ite (.tmp 28)
      (.hook 11 (.op (some 7) (.p (.mv (.const (.int .u8 159))))
      .done))
      .done))))
  (.sq 12
    (.hook 12 (.op (some 29) (.p (.mv (.tmp 5)))
    (.op (some 30) (.p (.bin .eql (.tmp 29) (.const (.int .u8 240))))
    (.ite (.tmp 30)
      (.hook 13 (.op (some 6) (.p (.mv (.const (.int .u8 144))))
      .done))
      .done))))
  (.sq 14
    (.hook 14 (.op (some 31) (.p (.mv (.tmp 5)))
    (.op (some 32) (.p (.bin .eql (.tmp 31) (.const (.int .u8 244))))
    (.ite (.tmp 32)
      (.hook 15 (.op (some 7) (.p (.mv (.const (.int .u8 143))))
      .done))
      .done))))
  (.sq 16
    (.hook 16 (.op (some 33) (.p (.mv (.tmp 5)))
    (.op (some 34) (.p (.bin .geq (.tmp 33) (.const (.int .u8 224))))
    (.op (some 35) (.p (.mv (.tmp 34)))
    (.g 35 true (some 36) (.p (.mv (.tmp 5)))
    (.g 35 true (some 37) (.p (.bin .leq (.tmp 36) (.const (.int .u8 239))))
    (.op (some 38) (.p (.pick (.tmp 35) (.tmp 37) (.const (.bool false))))
    (.op (some 39) (.p (.mv (.tmp 38)))
    (.g 39 true (some 40) (.p (.mv (.tmp 0)))
    (.g 39 true (some 41) (.p (.mv (.tmp 1)))
    (.g 39 true (some 42) (.p (.bin .add (.tmp 41) (.const (.int .i64 1))))
    (.g 39 true (some 43) (.p (.mv (.tmp 6)))
    (.g 39 true (some 44) (.p (.mv (.tmp 7)))
    (.g 39 true (some 45) (.w (.call 115 [(.tmp 40), (.tmp 42), (.const (.int .i64 2)), (.tmp 43), (.tmp 44)]))
    (.op (some 46) (.p (.pick (.tmp 39) (.tmp 45) (.const (.bool false))))
    (.ite (.tmp 46)
      (.hook 17 (.op (some 4) (.p (.mv (.const (.int .i64 3))))
      .ret))
      .done))))))))))))))))
  (.sq 18
    (.hook 18 (.op (some 47) (.p (.mv (.tmp 5)))
    (.op (some 48) (.p (.bin .geq (.tmp 47) (.const (.int .u8 240))))
    (.op (some 49) (.p (.mv (.tmp 48)))
    (.g 49 true (some 50) (.p (.mv (.tmp 5)))
    (.g 49 true (some 51) (.p (.bin .leq (.tmp 50) (.const (.int .u8 244))))
    (.op (some 52) (.p (.pick (.tmp 49) (.tmp 51) (.const (.bool false))))
    (.op (some 53) (.p (.mv (.tmp 52)))
    (.g 53 true (some 54) (.p (.mv (.tmp 0)))
    (.g 53 true (some 55) (.p (.mv (.tmp 1)))
    (.g 53 true (some 56) (.p (.bin .add (.tmp 55) (.const (.int .i64 1))))
    (.g 53 true (some 57) (.p (.mv (.tmp 6)))
    (.g 53 true (some 58) (.p (.mv (.tmp 7)))
    (.g 53 true (some 59) (.w (.call 115 [(.tmp 54), (.tmp 56), (.const (.int .i64 3)), (.tmp 57), (.tmp 58)]))
    (.op (some 60) (.p (.pick (.tmp 53) (.tmp 59) (.const (.bool false))))
    (.ite (.tmp 60)
      (.hook 19 (.op (some 4) (.p (.mv (.const (.int .i64 4))))
      .ret))
      .done))))))))))))))))
  (.hook 20 (.op (some 4) (.p (.mv (.const (.int .i64 0))))
  .ret)))))))))))))))))))))
theorem k95 : compF Tryz.prog 95 = some (c95, [(.t 4)], 61) := by kernel_rfl
/- "hallmark/hallmarkref03.trail" -/
def c115 : S :=
  (.hook 0 (.op (some 10) (.p (.mv (.const (.bool false))))
  (.sq 1
    (.hook 1 (.op (some 12) (.p (.mv (.tmp 1)))
    (.op (some 13) (.p (.mv (.tmp 2)))
    (.op (some 14) (.p (.bin .add (.tmp 12) (.tmp 13)))
    (.op (some 15) (.p (.mv (.tmp 0)))
    (.op (some 16) (.p (.lens (.tmp 15)))
    (.op (some 17) (.p (.bin .gtr (.tmp 14) (.tmp 16)))
    (.ite (.tmp 17)
      (.hook 2 (.op (some 10) (.p (.mv (.const (.bool false))))
      .ret))
      .done))))))))
  (.sq 3
    (.hook 3 (.op (some 11) (.p (.mv (.const (.int .i64 0))))
    (.block 0
      (.loop
        (.sq 4
          (.hook 4 (.op (some 18) (.p (.mv (.tmp 11)))
          (.op (some 19) (.p (.mv (.tmp 2)))
          (.op (some 20) (.p (.bin .lss (.tmp 18) (.tmp 19)))
          (.ite (.tmp 20)
            .done
            (.exit 0))))))
        (.sq 6
          (.block 1
            (.hook 6 (.op (some 23) (.p (.mv (.tmp 0)))
            (.op (some 24) (.p (.mv (.tmp 1)))
            (.op (some 25) (.p (.mv (.tmp 11)))
            (.op (some 26) (.p (.bin .add (.tmp 24) (.tmp 25)))
            (.op (some 27) (.p (.sidx (.tmp 23) (.tmp 26)))
            (.op (some 28) (.p (.bin .lss (.tmp 27) (.const (.int .u8 128))))
            (.op (some 29) (.p (.mv (.tmp 28)))
            (.g 29 false (some 30) (.p (.mv (.tmp 0)))
            (.g 29 false (some 31) (.p (.mv (.tmp 1)))
            (.g 29 false (some 32) (.p (.mv (.tmp 11)))
            (.g 29 false (some 33) (.p (.bin .add (.tmp 31) (.tmp 32)))
            (.g 29 false (some 34) (.p (.sidx (.tmp 30) (.tmp 33)))
            (.g 29 false (some 35) (.p (.bin .gtr (.tmp 34) (.const (.int .u8 191))))
            (.op (some 36) (.p (.pick (.tmp 29) (.const (.bool true)) (.tmp 35)))
            (.ite (.tmp 36)
              (.hook 7 (.op (some 10) (.p (.mv (.const (.bool false))))
              .ret))
              .done)))))))))))))))))
        (.hook 5 (.op (some 21) (.p (.mv (.tmp 11)))
        (.op (some 22) (.p (.bin .add (.tmp 21) (.const (.int .i64 1))))
        (.op (some 11) (.p (.mv (.tmp 22)))
        .done))))))))))
  (.hook 8 (.op (some 37) (.p (.mv (.tmp 0)))
  (.op (some 38) (.p (.mv (.tmp 1)))
  (.op (some 39) (.p (.sidx (.tmp 37) (.tmp 38)))
  (.op (some 40) (.p (.mv (.tmp 3)))
  (.op (some 41) (.p (.bin .geq (.tmp 39) (.tmp 40)))
  (.op (some 42) (.p (.mv (.tmp 41)))
  (.g 42 true (some 43) (.p (.mv (.tmp 0)))
  (.g 42 true (some 44) (.p (.mv (.tmp 1)))
  (.g 42 true (some 45) (.p (.sidx (.tmp 43) (.tmp 44)))
  (.g 42 true (some 46) (.p (.mv (.tmp 4)))
  (.g 42 true (some 47) (.p (.bin .leq (.tmp 45) (.tmp 46)))
  (.op (some 48) (.p (.pick (.tmp 42) (.tmp 47) (.const (.bool false))))
  (.op (some 10) (.p (.mv (.tmp 48)))
  .ret))))))))))))))))))
theorem k115 : compF Tryz.prog 115 = some (c115, [(.t 10)], 49) := by kernel_rfl
/-- From i on stand n bytes from 128 to 191, the first of them from lo to hi. -/
def trl (s : List UInt8) (i n lo hi : Nat) : Prop := i + n ≤ s.length ∧ (∀ k, k < n → 128 ≤ (s.getD (i + k) 0).toNat ∧ (s.getD (i + k) 0).toNat ≤ 191) ∧ lo ≤ (s.getD i 0).toNat ∧ (s.getD i 0).toNat ≤ hi
set_option maxRecDepth 100000 in
theorem trail_calls (s : List UInt8) (i n lo hi : Nat) (h : Hp) (h1 : 1 ≤ n) (hn : n ≤ 3) (hi0 : i ≤ s.length) (hs : s.length < 2 ^ 62) (hlo : lo < 256) (hhi : hi < 256) :
    VCalls Tryz.prog 115 [vstr s, int i, int n, .v (.int .u8 lo), .v (.int .u8 hi)] h (fun v h' => (∃ b : Bool, v = vbool b ∧ (b = true ↔ trl s i n lo hi)) ∧ h' = h) := by
  refine xc k115 rfl ?_
  refine runto 3 ?_
  refine br_d (fun hb => ?_) (fun hb => ?_)
  · refine run ?_
    refine retv ⟨⟨false, rfl, ?_⟩, rfl⟩
    constructor
    · intro h; cases h
    · rintro ⟨hh, _⟩; omega
  refine run ?_
  refine lp (fun k : Nat => [(0, vstr s), (1, int i), (2, int n), (3, .v (.int .u8 lo)), (4, .v (.int .u8 hi)), (11, int k)]) (fun _ => h) (fun k => k ≤ n ∧ ∀ j, j < k → 128 ≤ (s.getD (i + j) 0).toNat ∧ (s.getD (i + j) 0).toNat ≤ 191) (fun k => n - k) (wkx 0 ⟨by omega, fun j hj => by omega⟩ fits rfl) ?_
  rintro k ⟨hk, hg⟩
  refine run ?_
  refine br_d (fun hb2 => ?_) (fun hb2 => ?_)
  · have e : ((i : Int) + k).toNat = i + k := by omega
    refine run ?_
    rw [e]
    refine br_d (fun hc => ?_) (fun hc => ?_)
    · refine run ?_
      refine retv ⟨⟨false, rfl, ?_⟩, rfl⟩
      constructor
      · intro h; cases h
      · rintro ⟨_, hh, _⟩; have := hh k (by omega); omega
    refine run ?_
    rw [e]
    refine br_d (fun hc2 => ?_) (fun hc2 => ?_)
    · refine run ?_
      refine retv ⟨⟨false, rfl, ?_⟩, rfl⟩
      constructor
      · intro h; cases h
      · rintro ⟨_, hh, _⟩; have := hh k (by omega); omega
    · refine run ?_
      refine wkx (k + 1) ⟨⟨by omega, fun j hj => ?_⟩, by omega⟩ fits rfl
      by_cases hjk : j = k
      · subst hjk; omega
      · exact hg j (by omega)
  · obtain rfl : k = n := by omega
    refine run ?_
    refine br_d (fun hc => ?_) (fun hc => ?_)
    · refine run ?_
      refine retv ?_
      refine ⟨⟨_, rfl, ?_⟩, rfl⟩
      rw [decide_eq_true_eq]
      exact ⟨fun hh => ⟨by omega, hg, by omega, by omega⟩, fun hh => by have := hh.2.2; omega⟩
    · refine run ?_
      refine retv ?_
      refine ⟨⟨_, rfl, ?_⟩, rfl⟩
      exact ⟨fun hh => (by cases hh), fun hh => by have := hh.2.2; omega⟩
theorem getD_drop' (s : List UInt8) (i k : Nat) : (s.drop i).getD k 0 = s.getD (i + k) 0 := by simp [List.getD]
/-- What the reference's width comes to. -/
theorem wd_one (s : List UInt8) (i : Nat) (h : (s.getD i 0).toNat < 128) : wd (s.drop i) = 1 := by
  have h' : ((s.drop i).getD 0 0).toNat < 128 := by rw [getD_drop']; exact h
  rw [wd_N, wN_1 _ _ _ _ _ h', if_neg]
  rintro ⟨h1, h2⟩; dsimp only at h1; omega
theorem wd_of (s : List UInt8) (i m : Nat) (hm : m ≠ 1) (h : (decodeN (s.length - i) (s.getD i 0).toNat (s.getD (i + 1) 0).toNat (s.getD (i + 2) 0).toNat (s.getD (i + 3) 0).toNat).2 = m) : wd (s.drop i) = m := by
  rw [wd_N, getD_drop', getD_drop', getD_drop', getD_drop', List.length_drop, Nat.add_zero, h, if_neg (by rintro ⟨_, h2⟩; exact hm h2)]
theorem wd_zero (s : List UInt8) (i : Nat) (h : decodeN (s.length - i) (s.getD i 0).toNat (s.getD (i + 1) 0).toNat (s.getD (i + 2) 0).toNat (s.getD (i + 3) 0).toNat = (65533, 1)) : wd (s.drop i) = 0 := by
  rw [wd_N, getD_drop', getD_drop', getD_drop', getD_drop', List.length_drop, Nat.add_zero, h, if_pos ⟨rfl, rfl⟩]
theorem trl1 (s : List UInt8) (i lo hi : Nat) : trl s (i + 1) 1 lo hi ↔ (1 < s.length - i ∧ (128 ≤ (s.getD (i + 1) 0).toNat ∧ (s.getD (i + 1) 0).toNat ≤ 191) ∧ lo ≤ (s.getD (i + 1) 0).toNat ∧ (s.getD (i + 1) 0).toNat ≤ hi) := by
  constructor
  · rintro ⟨h1, h2, h3, h4⟩
    exact ⟨by omega, h2 0 (by omega), h3, h4⟩
  · rintro ⟨h1, h2, h3, h4⟩
    refine ⟨by omega, fun k hk => ?_, h3, h4⟩
    match k, hk with
    | 0, _ => exact h2
theorem trl2 (s : List UInt8) (i lo hi : Nat) : trl s (i + 1) 2 lo hi ↔ (2 < s.length - i ∧ (128 ≤ (s.getD (i + 1) 0).toNat ∧ (s.getD (i + 1) 0).toNat ≤ 191) ∧ (128 ≤ (s.getD (i + 2) 0).toNat ∧ (s.getD (i + 2) 0).toNat ≤ 191) ∧ lo ≤ (s.getD (i + 1) 0).toNat ∧ (s.getD (i + 1) 0).toNat ≤ hi) := by
  constructor
  · rintro ⟨h1, h2, h3, h4⟩
    exact ⟨by omega, h2 0 (by omega), h2 1 (by omega), h3, h4⟩
  · rintro ⟨h1, h2, h5, h3, h4⟩
    refine ⟨by omega, fun k hk => ?_, h3, h4⟩
    match k, hk with
    | 0, _ => exact h2
    | 1, _ => exact h5
theorem trl3 (s : List UInt8) (i lo hi : Nat) : trl s (i + 1) 3 lo hi ↔ (3 < s.length - i ∧ (128 ≤ (s.getD (i + 1) 0).toNat ∧ (s.getD (i + 1) 0).toNat ≤ 191) ∧ (128 ≤ (s.getD (i + 2) 0).toNat ∧ (s.getD (i + 2) 0).toNat ≤ 191) ∧ (128 ≤ (s.getD (i + 3) 0).toNat ∧ (s.getD (i + 3) 0).toNat ≤ 191) ∧ lo ≤ (s.getD (i + 1) 0).toNat ∧ (s.getD (i + 1) 0).toNat ≤ hi) := by
  constructor
  · rintro ⟨h1, h2, h3, h4⟩
    exact ⟨by omega, h2 0 (by omega), h2 1 (by omega), h2 2 (by omega), h3, h4⟩
  · rintro ⟨h1, h2, h5, h6, h3, h4⟩
    refine ⟨by omega, fun k hk => ?_, h3, h4⟩
    match k, hk with
    | 0, _ => exact h2
    | 1, _ => exact h5
    | 2, _ => exact h6
set_option maxRecDepth 100000 in
theorem width_calls (s : List UInt8) (i : Nat) (h : Hp) (hi0 : i < s.length) (hs : s.length < 2 ^ 62) : VCalls Tryz.prog 95 [vstr s, int i] h (fun v h' => v = int (wd (s.drop i)) ∧ h' = h) := by
  have k0 := (s.getD i 0).toNat_lt
  have k1 := (s.getD (i + 1) 0).toNat_lt
  have k2 := (s.getD (i + 2) 0).toNat_lt
  have k3 := (s.getD (i + 3) 0).toNat_lt
  refine xc k95 rfl ?_
  refine runto 4 ?_
  refine br_d (fun hb => ?_) (fun hb => ?_)
  · refine run ?_
    refine retv ?_
    refine ⟨?_, rfl⟩
    rw [wd_one s i (by omega)]
    rfl
  have e1 : (i : Int) + 1 = ((i + 1 : Nat) : Int) := by omega
  refine runto 4 ?_
  refine jn (fun _ : Unit => [(0, vstr s), (1, int i), (5, .v (.int .u8 (s.getD i 0).toNat))]) (fun _ => h) (fun _ => ¬ (194 ≤ (s.getD i 0).toNat ∧ (s.getD i 0).toNat ≤ 223 ∧ trl s (i + 1) 1 128 191)) ?_ ?_
  · refine run ?_
    refine br_d (fun hb1 => ?_) (fun hb1 => ?_)
    · refine run ?_
      refine br_d (fun hb2 => ?_) (fun hb2 => ?_)
      · refine run ?_
        rw [e1]
        refine VCalls.use (trail_calls s (i + 1) 1 128 191 h (by omega) (by omega) (by omega) hs (by omega) (by omega)) ?_
        rintro _ _ ⟨⟨b, rfl, hb3⟩, rfl⟩
        cases b with
        | true =>
          have ht := (trl1 _ _ _ _).1 (hb3.1 rfl)
          refine run ?_
          refine retv ?_
          refine ⟨?_, rfl⟩
          rw [wd_of s i 2 (by omega) (wN_2 _ _ _ _ _ (by omega) (by omega) (by omega) (by omega) (by omega))]
          rfl
        | false =>
          refine run ?_
          exact wkx () (fun hh => Bool.false_ne_true (hb3.2 hh.2.2)) fits rfl
      · refine run ?_
        exact wkx () (fun hh => by omega) fits rfl
    · refine run ?_
      exact wkx () (fun hh => by omega) fits rfl
  rintro ⟨⟩ hn2
  have hcase : (s.getD i 0).toNat = 224 ∨ (s.getD i 0).toNat = 237 ∨ (225 ≤ (s.getD i 0).toNat ∧ (s.getD i 0).toNat ≤ 239 ∧ (s.getD i 0).toNat ≠ 237) ∨ (s.getD i 0).toNat = 240 ∨ (s.getD i 0).toNat = 244 ∨ (241 ≤ (s.getD i 0).toNat ∧ (s.getD i 0).toNat ≤ 243) ∨ (s.getD i 0).toNat < 224 ∨ 244 < (s.getD i 0).toNat := by omega
  rcases hcase with hc | hc | hc | hc | hc | hc | hc
  · -- 3
    have hl : loB (s.getD i 0).toNat = 160 := by unfold loB; (repeat' split) <;> omega
    have hh : hiB (s.getD i 0).toNat = 191 := by unfold hiB; (repeat' split) <;> omega
    refine run ?_
    rw [e1]
    refine VCalls.use (trail_calls s (i + 1) 2 160 191 h (by omega) (by omega) (by omega) hs (by omega) (by omega)) ?_
    rintro _ _ ⟨⟨b, rfl, hb3⟩, rfl⟩
    rw [trl2] at hb3
    cases b with
    | true =>
      have ht := hb3.1 rfl
      refine run ?_
      refine retv ?_
      refine ⟨?_, rfl⟩
      rw [wd_of s i 3 (by omega) (wN_3 _ _ _ _ _ (by omega) (by omega) (by omega) (by omega) (by omega) (by omega) (by omega) (by omega) (by omega))]
      rfl
    | false =>
      have ht : ¬ _ := fun hx => Bool.false_ne_true (hb3.2 hx)
      refine run ?_
      refine retv ?_
      refine ⟨?_, rfl⟩
      rw [wd_zero s i (wN_0 _ _ _ _ _ (by omega) (by omega) (by omega) (by omega) (by omega) (fun hh => by omega) (fun hh => ht (by omega)) (fun hh => by omega))]
      rfl
  · -- 3
    have hl : loB (s.getD i 0).toNat = 128 := by unfold loB; (repeat' split) <;> omega
    have hh : hiB (s.getD i 0).toNat = 159 := by unfold hiB; (repeat' split) <;> omega
    refine run ?_
    rw [e1]
    refine VCalls.use (trail_calls s (i + 1) 2 128 159 h (by omega) (by omega) (by omega) hs (by omega) (by omega)) ?_
    rintro _ _ ⟨⟨b, rfl, hb3⟩, rfl⟩
    rw [trl2] at hb3
    cases b with
    | true =>
      have ht := hb3.1 rfl
      refine run ?_
      refine retv ?_
      refine ⟨?_, rfl⟩
      rw [wd_of s i 3 (by omega) (wN_3 _ _ _ _ _ (by omega) (by omega) (by omega) (by omega) (by omega) (by omega) (by omega) (by omega) (by omega))]
      rfl
    | false =>
      have ht : ¬ _ := fun hx => Bool.false_ne_true (hb3.2 hx)
      refine run ?_
      refine retv ?_
      refine ⟨?_, rfl⟩
      rw [wd_zero s i (wN_0 _ _ _ _ _ (by omega) (by omega) (by omega) (by omega) (by omega) (fun hh => by omega) (fun hh => ht (by omega)) (fun hh => by omega))]
      rfl
  · -- 3
    have hl : loB (s.getD i 0).toNat = 128 := by unfold loB; (repeat' split) <;> omega
    have hh : hiB (s.getD i 0).toNat = 191 := by unfold hiB; (repeat' split) <;> omega
    refine run ?_
    rw [e1]
    refine VCalls.use (trail_calls s (i + 1) 2 128 191 h (by omega) (by omega) (by omega) hs (by omega) (by omega)) ?_
    rintro _ _ ⟨⟨b, rfl, hb3⟩, rfl⟩
    rw [trl2] at hb3
    cases b with
    | true =>
      have ht := hb3.1 rfl
      refine run ?_
      refine retv ?_
      refine ⟨?_, rfl⟩
      rw [wd_of s i 3 (by omega) (wN_3 _ _ _ _ _ (by omega) (by omega) (by omega) (by omega) (by omega) (by omega) (by omega) (by omega) (by omega))]
      rfl
    | false =>
      have ht : ¬ _ := fun hx => Bool.false_ne_true (hb3.2 hx)
      refine run ?_
      refine retv ?_
      refine ⟨?_, rfl⟩
      rw [wd_zero s i (wN_0 _ _ _ _ _ (by omega) (by omega) (by omega) (by omega) (by omega) (fun hh => by omega) (fun hh => ht (by omega)) (fun hh => by omega))]
      rfl
  · -- 4
    have hl : loB (s.getD i 0).toNat = 144 := by unfold loB; (repeat' split) <;> omega
    have hh : hiB (s.getD i 0).toNat = 191 := by unfold hiB; (repeat' split) <;> omega
    refine run ?_
    rw [e1]
    refine VCalls.use (trail_calls s (i + 1) 3 144 191 h (by omega) (by omega) (by omega) hs (by omega) (by omega)) ?_
    rintro _ _ ⟨⟨b, rfl, hb3⟩, rfl⟩
    rw [trl3] at hb3
    cases b with
    | true =>
      have ht := hb3.1 rfl
      refine run ?_
      refine retv ?_
      refine ⟨?_, rfl⟩
      rw [wd_of s i 4 (by omega) (wN_4 _ _ _ _ _ (by omega) (by omega) (by omega) (by omega) (by omega) (by omega) (by omega) (by omega) (by omega) (by omega) (by omega))]
      rfl
    | false =>
      have ht : ¬ _ := fun hx => Bool.false_ne_true (hb3.2 hx)
      refine run ?_
      refine retv ?_
      refine ⟨?_, rfl⟩
      rw [wd_zero s i (wN_0 _ _ _ _ _ (by omega) (by omega) (by omega) (by omega) (by omega) (fun hh => by omega) (fun hh => by omega) (fun hh => ht (by omega)))]
      rfl
  · -- 4
    have hl : loB (s.getD i 0).toNat = 128 := by unfold loB; (repeat' split) <;> omega
    have hh : hiB (s.getD i 0).toNat = 143 := by unfold hiB; (repeat' split) <;> omega
    refine run ?_
    rw [e1]
    refine VCalls.use (trail_calls s (i + 1) 3 128 143 h (by omega) (by omega) (by omega) hs (by omega) (by omega)) ?_
    rintro _ _ ⟨⟨b, rfl, hb3⟩, rfl⟩
    rw [trl3] at hb3
    cases b with
    | true =>
      have ht := hb3.1 rfl
      refine run ?_
      refine retv ?_
      refine ⟨?_, rfl⟩
      rw [wd_of s i 4 (by omega) (wN_4 _ _ _ _ _ (by omega) (by omega) (by omega) (by omega) (by omega) (by omega) (by omega) (by omega) (by omega) (by omega) (by omega))]
      rfl
    | false =>
      have ht : ¬ _ := fun hx => Bool.false_ne_true (hb3.2 hx)
      refine run ?_
      refine retv ?_
      refine ⟨?_, rfl⟩
      rw [wd_zero s i (wN_0 _ _ _ _ _ (by omega) (by omega) (by omega) (by omega) (by omega) (fun hh => by omega) (fun hh => by omega) (fun hh => ht (by omega)))]
      rfl
  · -- 4
    have hl : loB (s.getD i 0).toNat = 128 := by unfold loB; (repeat' split) <;> omega
    have hh : hiB (s.getD i 0).toNat = 191 := by unfold hiB; (repeat' split) <;> omega
    refine run ?_
    rw [e1]
    refine VCalls.use (trail_calls s (i + 1) 3 128 191 h (by omega) (by omega) (by omega) hs (by omega) (by omega)) ?_
    rintro _ _ ⟨⟨b, rfl, hb3⟩, rfl⟩
    rw [trl3] at hb3
    cases b with
    | true =>
      have ht := hb3.1 rfl
      refine run ?_
      refine retv ?_
      refine ⟨?_, rfl⟩
      rw [wd_of s i 4 (by omega) (wN_4 _ _ _ _ _ (by omega) (by omega) (by omega) (by omega) (by omega) (by omega) (by omega) (by omega) (by omega) (by omega) (by omega))]
      rfl
    | false =>
      have ht : ¬ _ := fun hx => Bool.false_ne_true (hb3.2 hx)
      refine run ?_
      refine retv ?_
      refine ⟨?_, rfl⟩
      rw [wd_zero s i (wN_0 _ _ _ _ _ (by omega) (by omega) (by omega) (by omega) (by omega) (fun hh => by omega) (fun hh => by omega) (fun hh => ht (by omega)))]
      rfl
  · rcases hc with hc | hc
    all_goals
      refine run ?_
      refine retv ?_
      refine ⟨?_, rfl⟩
      rw [wd_zero s i (wN_0 _ _ _ _ _ (by omega) (by omega) (by omega) (by omega) (by omega) (fun hh => hn2 ⟨hh.1, hh.2.1, by rw [trl1]; omega⟩) (fun hh => by omega) (fun hh => by omega))]
      rfl
theorem utf_calls (s : List UInt8) (h : Hp) (hs : s.length < 2 ^ 62) : VCalls Tryz.prog 50 [vstr s] h (fun v h' => v = vbool (validD s) ∧ h' = h) := by
  refine xc k50 rfl ?_
  refine run ?_
  refine lp (fun i : Nat => [(0, vstr s), (3, int i)]) (fun _ => h) (fun i => i ≤ s.length ∧ validD s = validD (s.drop i)) (fun i => s.length - i) (wkx 0 ⟨by omega, rfl⟩ fits rfl) ?_
  rintro i ⟨hi, hv⟩
  refine run ?_
  refine br_d (fun hb => ?_) (fun hb => ?_)
  · have hne : s.drop i ≠ [] := by intro he; have := congrArg List.length he; simp at this; omega
    have hw := wd_le (s.drop i) hne
    rw [List.length_drop] at hw
    refine run ?_
    refine VCalls.use (width_calls s i h (by omega) hs) ?_
    rintro _ _ ⟨rfl, rfl⟩
    refine run ?_
    refine br_d (fun hc => ?_) (fun hc => ?_)
    · refine run ?_
      refine retv ?_
      refine ⟨?_, rfl⟩
      rw [hv, valid_wd _ hne, if_pos (by omega)]
      rfl
    · refine run ?_
      refine wkx (i + wd (s.drop i)) ⟨⟨by omega, ?_⟩, by omega⟩ fits rfl
      rw [hv, valid_wd _ hne, if_neg (by omega), List.drop_drop]
  · obtain rfl : i = s.length := by omega
    refine run ?_
    refine retv ?_
    refine ⟨?_, rfl⟩
    rw [hv, List.drop_length]
    rfl
end Go.Proofs.YtpiicncihccheaaGreatDoor
