/- Walks of the package writer: the pen. -/
import Derived.Test.YtpiicncihccheaaGreatDoorJ2
import Derived.Test.YtpiicncihccheaaGreatDoorSH
import Derived.Test.YtpiicncihccheaaGreatDoorE1
import Derived.Test.YtpiicncihccheaaGreatDoorD2
namespace Go.Proofs.YtpiicncihccheaaGreatDoor
open Go.XW Go.XW.DU Go.Lib Go.XW.U
/- "(*hallmark/writer.pen).line" -/
def c126 : S :=
  (.hook 0 (.op (some 4) (.p (.mv (.tmp 0)))
  (.op (some 5) (.p (.nilc (.tmp 4)))
  (.op (some 6) (.p (.fad (.tmp 5) 2))
  (.op (some 7) (.r (.ld false 1 (.tmp 6)))
  (.op (some 8) (.p (.bin .geq (.tmp 7) (.const (.int .i64 0))))
  (.ite (.tmp 8)
    (.hook 1 (.op (some 9) (.p (.mv (.tmp 0)))
    (.op (some 10) (.p (.nilc (.tmp 9)))
    (.op (some 11) (.p (.fad (.tmp 10) 0))
    (.op (some 12) (.w (.call 29 [(.tmp 11), (.const (.int .u8 10))]))
    (.hook 2 (.op (some 13) (.p (.mv (.tmp 0)))
    (.op (some 14) (.p (.nilc (.tmp 13)))
    (.op (some 15) (.p (.fad (.tmp 14) 0))
    (.op (some 16) (.p (.mv (.tmp 1)))
    (.op (some 17) (.p (.mv (.tmp 0)))
    (.op (some 18) (.p (.nilc (.tmp 17)))
    (.op (some 19) (.p (.fad (.tmp 18) 2))
    (.op (some 20) (.r (.ld false 1 (.tmp 19)))
    (.op (some 21) (.p (.bin .mul (.tmp 16) (.tmp 20)))
    (.op (some 22) (.w (.call 140 [(.const (.string ⟨#[32]⟩)), (.tmp 21)]))
    (.op (some 23) (.w (.call 28 [(.tmp 15), (.tmp 22)]))
    .done)))))))))))))))))
    .done)))))))
theorem k126 : compF Tryz.prog 126 = some (c126, [], 24) := by kernel_rfl
/- "(*hallmark/writer.pen).word" -/
def c62 : S :=
  (.hook 0 (.op (some 4) (.w (.box true 5 (.tmp 1)))
  (.hook 1 (.op (some 6) (.p (.fad (.tmp 4) 0))
  (.op (some 7) (.r (.ld false 1 (.tmp 6)))
  (.block 0
    (.hook 3 (.op (some 16) (.p (.bin .eql (.tmp 7) (.const (.int .i64 0))))
    (.op (some 15) (.p (.mv (.tmp 16)))
    (.ite (.tmp 15)
      (.hook 4 (.op (some 17) (.p (.mv (.tmp 0)))
      (.op (some 18) (.p (.nilc (.tmp 17)))
      (.op (some 19) (.p (.fad (.tmp 18) 0))
      (.op (some 20) (.w (.call 28 [(.tmp 19), (.const (.string ⟨#[110, 117, 108, 108]⟩))]))
      .done)))))
      (.hook 5 (.op (some 22) (.p (.bin .eql (.tmp 7) (.const (.int .i64 1))))
      (.op (some 21) (.p (.mv (.tmp 22)))
      (.ite (.tmp 21)
        (.hook 6 (.op (some 23) (.p (.mv (.tmp 0)))
        (.op (some 24) (.p (.nilc (.tmp 23)))
        (.op (some 25) (.p (.fad (.tmp 24) 0))
        (.op (some 26) (.w (.call 28 [(.tmp 25), (.const (.string ⟨#[102, 97, 108, 115, 101]⟩))]))
        .done)))))
        (.hook 7 (.op (some 28) (.p (.bin .eql (.tmp 7) (.const (.int .i64 2))))
        (.op (some 27) (.p (.mv (.tmp 28)))
        (.ite (.tmp 27)
          (.hook 8 (.op (some 29) (.p (.mv (.tmp 0)))
          (.op (some 30) (.p (.nilc (.tmp 29)))
          (.op (some 31) (.p (.fad (.tmp 30) 0))
          (.op (some 32) (.w (.call 28 [(.tmp 31), (.const (.string ⟨#[116, 114, 117, 101]⟩))]))
          .done)))))
          (.hook 9 (.op (some 34) (.p (.bin .eql (.tmp 7) (.const (.int .i64 3))))
          (.op (some 33) (.p (.mv (.tmp 34)))
          (.ite (.tmp 33)
            (.hook 10 (.op (some 35) (.p (.mv (.tmp 0)))
            (.op (some 36) (.p (.nilc (.tmp 35)))
            (.op (some 37) (.p (.fad (.tmp 36) 0))
            (.op (some 38) (.p (.fad (.tmp 4) 1))
            (.op (some 39) (.r (.ld false 1 (.tmp 38)))
            (.op (some 40) (.w (.call 28 [(.tmp 37), (.tmp 39)]))
            .done)))))))
            (.hook 2 (.op (some 8) (.p (.mv (.tmp 0)))
            (.op (some 9) (.p (.nilc (.tmp 8)))
            (.op (some 10) (.p (.fad (.tmp 9) 0))
            (.op (some 11) (.p (.fad (.tmp 4) 2))
            (.op (some 12) (.r (.ld false 1 (.tmp 11)))
            (.op (some 13) (.w (.call 102 [(.tmp 12)]))
            (.op (some 14) (.w (.call 28 [(.tmp 10), (.tmp 13)]))
            .done))))))))))))))))))))))))))))))
theorem k62 : compF Tryz.prog 62 = some (c62, [], 41) := by kernel_rfl
/- "(*hallmark/writer.pen).items" -/
def c103 : S :=
  (.hook 0 (.op (some 6) (.w (.box true 5 (.tmp 1)))
  (.hook 1 (.op (some 12) (.p (.mv (.tmp 0)))
  (.op (some 13) (.p (.nilc (.tmp 12)))
  (.op (some 14) (.p (.fad (.tmp 13) 0))
  (.op (some 15) (.p (.mv (.tmp 3)))
  (.op (some 16) (.w (.call 29 [(.tmp 14), (.tmp 15)]))
  (.sq 2
    (.hook 2 (.op (some 17) (.p (.fad (.tmp 6) 3))
    (.op (some 18) (.r (.ld false 1 (.tmp 17)))
    (.op (some 19) (.p (.lenr (.tmp 18)))
    (.op (some 20) (.p (.mv (.const (.int .i64 0))))
    (.block 0
      (.loop
        (.hook 3 (.op (some 21) (.p (.bin .lss (.tmp 20) (.tmp 19)))
        (.sq 0
          (.ite (.tmp 21)
            .done
            (.exit 0))
        (.sq 4
          (.block 1
            (.hook 4 (.op (some 22) (.p (.mv (.tmp 20)))
            (.op (some 23) (.p (.iad 5 (.tmp 18) (.tmp 20)))
            (.op (some 24) (.r (.ld true 5 (.tmp 23)))
            (.op (some 11) (.w (.alloc 5 [(.int .i64 0), (.string ⟨#[]⟩), (.string ⟨#[]⟩), (.slice none 0 0), (.slice none 0 0)]))
            (.op (some 10) (.p (.mv (.tmp 22)))
            (.op none (.w (.st true 5 (.tmp 11) (.tmp 24)))
            (.sq 5
              (.hook 5 (.op (some 25) (.p (.mv (.tmp 10)))
              (.op (some 26) (.p (.bin .gtr (.tmp 25) (.const (.int .i64 0))))
              (.ite (.tmp 26)
                (.hook 6 (.op (some 27) (.p (.mv (.tmp 0)))
                (.op (some 28) (.p (.nilc (.tmp 27)))
                (.op (some 29) (.p (.fad (.tmp 28) 0))
                (.op (some 30) (.w (.call 29 [(.tmp 29), (.const (.int .u8 44))]))
                .done)))))
                .done))))
            (.hook 7 (.op (some 31) (.p (.mv (.tmp 0)))
            (.op (some 32) (.p (.mv (.tmp 2)))
            (.op (some 33) (.p (.bin .add (.tmp 32) (.const (.int .i64 1))))
            (.op (some 34) (.w (.call 126 [(.tmp 31), (.tmp 33)]))
            (.sq 8
              (.hook 8 (.op (some 35) (.p (.fad (.tmp 6) 0))
              (.op (some 36) (.r (.ld false 1 (.tmp 35)))
              (.op (some 37) (.p (.bin .eql (.tmp 36) (.const (.int .i64 6))))
              (.ite (.tmp 37)
                (.hook 9 (.op (some 38) (.p (.mv (.tmp 0)))
                (.op (some 39) (.p (.nilc (.tmp 38)))
                (.op (some 40) (.p (.fad (.tmp 39) 0))
                (.op (some 41) (.p (.fad (.tmp 6) 4))
                (.op (some 42) (.r (.ld false 1 (.tmp 41)))
                (.op (some 43) (.p (.mv (.tmp 10)))
                (.op (some 44) (.p (.iad 1 (.tmp 42) (.tmp 43)))
                (.op (some 45) (.r (.ld false 1 (.tmp 44)))
                (.op (some 46) (.w (.call 102 [(.tmp 45)]))
                (.op (some 47) (.w (.call 28 [(.tmp 40), (.tmp 46)]))
                (.hook 10 (.op (some 48) (.p (.mv (.tmp 0)))
                (.op (some 49) (.p (.nilc (.tmp 48)))
                (.op (some 50) (.p (.fad (.tmp 49) 0))
                (.op (some 51) (.w (.call 29 [(.tmp 50), (.const (.int .u8 58))]))
                (.hook 11 (.op (some 52) (.p (.mv (.tmp 0)))
                (.op (some 53) (.p (.nilc (.tmp 52)))
                (.op (some 54) (.p (.fad (.tmp 53) 2))
                (.op (some 55) (.r (.ld false 1 (.tmp 54)))
                (.op (some 56) (.p (.bin .geq (.tmp 55) (.const (.int .i64 0))))
                (.ite (.tmp 56)
                  (.hook 12 (.op (some 57) (.p (.mv (.tmp 0)))
                  (.op (some 58) (.p (.nilc (.tmp 57)))
                  (.op (some 59) (.p (.fad (.tmp 58) 0))
                  (.op (some 60) (.w (.call 29 [(.tmp 59), (.const (.int .u8 32))]))
                  .done)))))
                  .done)))))))))))))))))))))))
                .done)))))
            (.hook 13 (.op (some 61) (.p (.mv (.tmp 0)))
            (.op (some 62) (.r (.ld true 5 (.tmp 11)))
            (.op (some 63) (.p (.mv (.tmp 2)))
            (.op (some 64) (.p (.bin .add (.tmp 63) (.const (.int .i64 1))))
            (.op (some 65) (.w (.call 26 [(.tmp 61), (.tmp 62), (.tmp 64)]))
            .done)))))))))))))))))))))
        (.hook 14 (.op (some 66) (.p (.bin .add (.tmp 20) (.const (.int .i64 1))))
        (.op (some 20) (.p (.mv (.tmp 66)))
        .done))))))))))))))
  (.sq 15
    (.hook 15 (.op (some 67) (.p (.fad (.tmp 6) 3))
    (.op (some 68) (.r (.ld false 1 (.tmp 67)))
    (.op (some 69) (.p (.lenr (.tmp 68)))
    (.op (some 70) (.p (.bin .gtr (.tmp 69) (.const (.int .i64 0))))
    (.ite (.tmp 70)
      (.hook 16 (.op (some 71) (.p (.mv (.tmp 0)))
      (.op (some 72) (.p (.mv (.tmp 2)))
      (.op (some 73) (.w (.call 126 [(.tmp 71), (.tmp 72)]))
      .done))))
      .done))))))
  (.hook 17 (.op (some 74) (.p (.mv (.tmp 0)))
  (.op (some 75) (.p (.nilc (.tmp 74)))
  (.op (some 76) (.p (.fad (.tmp 75) 0))
  (.op (some 77) (.p (.mv (.tmp 4)))
  (.op (some 78) (.w (.call 29 [(.tmp 76), (.tmp 77)]))
  .done))))))))))))))))
theorem k103 : compF Tryz.prog 103 = some (c103, [], 79) := by kernel_rfl
/- "(*hallmark/writer.pen).array" -/
def c63 : S :=
  (.hook 0 (.op (some 4) (.w (.box true 5 (.tmp 1)))
  (.hook 1 (.op (some 6) (.p (.mv (.tmp 0)))
  (.op (some 7) (.r (.ld true 5 (.tmp 4)))
  (.op (some 8) (.p (.mv (.tmp 2)))
  (.op (some 9) (.w (.call 103 [(.tmp 6), (.tmp 7), (.tmp 8), (.const (.int .u8 91)), (.const (.int .u8 93))]))
  .done)))))))
theorem k63 : compF Tryz.prog 63 = some (c63, [], 10) := by kernel_rfl
/- "(*hallmark/writer.pen).object" -/
def c64 : S :=
  (.hook 0 (.op (some 4) (.w (.box true 5 (.tmp 1)))
  (.hook 1 (.op (some 6) (.p (.mv (.tmp 0)))
  (.op (some 7) (.r (.ld true 5 (.tmp 4)))
  (.op (some 8) (.p (.mv (.tmp 2)))
  (.op (some 9) (.w (.call 103 [(.tmp 6), (.tmp 7), (.tmp 8), (.const (.int .u8 123)), (.const (.int .u8 125))]))
  .done)))))))
theorem k64 : compF Tryz.prog 64 = some (c64, [], 10) := by kernel_rfl
/- "(*hallmark/writer.pen).value" -/
def c26 : S :=
  (.hook 0 (.op (some 4) (.w (.box true 5 (.tmp 1)))
  (.hook 1 (.op (some 7) (.p (.mv (.tmp 0)))
  (.op (some 8) (.p (.mkfn (.func 62) [(.tmp 7)] []))
  (.op (some 6) (.p (.mv (.tmp 8)))
  (.sq 2
    (.hook 2 (.op (some 9) (.p (.fad (.tmp 4) 0))
    (.op (some 10) (.r (.ld false 1 (.tmp 9)))
    (.block 0
      (.hook 3 (.op (some 12) (.p (.bin .eql (.tmp 10) (.const (.int .i64 5))))
      (.op (some 11) (.p (.mv (.tmp 12)))
      (.ite (.tmp 11)
        (.hook 4 (.op (some 13) (.p (.mv (.tmp 0)))
        (.op (some 14) (.p (.mkfn (.func 63) [(.tmp 13)] []))
        (.op (some 6) (.p (.mv (.tmp 14)))
        .done))))
        (.hook 5 (.op (some 16) (.p (.bin .eql (.tmp 10) (.const (.int .i64 6))))
        (.op (some 15) (.p (.mv (.tmp 16)))
        (.ite (.tmp 15)
          (.hook 6 (.op (some 17) (.p (.mv (.tmp 0)))
          (.op (some 18) (.p (.mkfn (.func 64) [(.tmp 17)] []))
          (.op (some 6) (.p (.mv (.tmp 18)))
          .done))))
          .done))))))))))))
  (.hook 7 (.op (some 19) (.p (.mv (.tmp 6)))
  (.op (some 20) (.r (.ld true 5 (.tmp 4)))
  (.op (some 21) (.p (.mv (.tmp 2)))
  (.op (some 22) (.w (.callv (.tmp 19) [(.tmp 20), (.tmp 21)]))
  .done))))))))))))
theorem k26 : compF Tryz.prog 26 = some (c26, [], 23) := by kernel_rfl
theorem up2 {α : Type} {x a b : α} {h : List α} : (a :: b :: x :: h).Perm (x :: a :: b :: h) := (List.Perm.cons _ (List.Perm.swap _ _ _)).trans (List.Perm.swap _ _ _)
/-- The type of a pen, and how many cells it has. -/
def penT : Nat := 76 * 1000 + 3
theorem rep_blank (n : Nat) : repeatL [32] n = List.replicate n 32 := by
  induction n with
  | zero => rfl
  | succ n ih => rw [repeatL, ih]; rfl
/-- A pen that has written a text. -/
def pH (kp kb : Nat) (A : V) (l : List UInt8) (st : Int) (h : Hp) : Hp := bH 3 kp kb A l [int st] h
def pT (kp : Nat) (l : List UInt8) (st : Int) (h h' : Hp) : Prop := bT 3 kp penT l [int st] h h'
theorem line_calls {kp kb : Nat} (n : BN 3 kp kb penT) {A : V} (hA : bA A 3 kp) (l : List UInt8) (st d : Int) (h : Hp) (h0 : 0 ≤ d) (hd : d ≤ 2 ^ 22) (hst : st ≤ 8) (hlen : l.length + (lineL d st).length < 2 ^ 47) :
    VCalls Tryz.prog 126 [.ptr 3 kp 0 0, int d] (bH 3 kp kb A l [int st] h) (fun _ h' => bT 3 kp penT (l ++ lineL d st) [int st] h h') := by
  refine xc k126 rfl ?_
  unfold lineL at hlen ⊢
  unfold bH
  refine run ?_
  refine br_d (fun hs => ?_) (fun hs => ?_)
  · rw [if_neg (by omega)] at hlen ⊢
    simp only [List.length_cons, List.length_replicate] at hlen
    have h1 : 0 ≤ d * st := Int.mul_nonneg h0 (by omega)
    have h2 : d * st ≤ 2 ^ 22 * 8 := Int.mul_le_mul hd hst (by omega) (by omega)
    refine run ?_
    refine VCalls.use (writeByte_calls n hA l 10 [int st] h (by omega)) ?_
    rintro _ _ ⟨A2, kb2, hn2, hA2, rfl⟩
    unfold bH
    refine run ?_
    have e1 : d * st = ((d * st).toNat : Int) := by omega
    rw [e1]
    refine VCalls.use (repeat_calls [32] (d * st).toNat _ (by simp; omega) (by omega)) ?_
    rintro _ _ ⟨rfl, rfl⟩
    refine run ?_
    rw [rep_blank]
    refine VCalls.use (writeString_calls hn2 hA2 (l ++ [10]) (List.replicate (d * st).toNat 32) [int st] h (by simp; omega)) ?_
    rintro _ _ ⟨A3, kb3, hn3, hA3, rfl⟩
    refine run ?_
    refine retv ⟨A3, kb3, hn3, hA3, ?_⟩
    rw [List.append_assoc]; rfl
  · rw [if_pos (by omega)]
    refine run ?_
    refine retv ⟨A, kb, n, hA, ?_⟩
    rw [List.append_nil]; rfl
theorem ret2 {R : V → Hp → Prop} {v : V} {a b x : Nat × HO} {h : Hp} (hr : Ret R v (a :: b :: h)) : Ret R v (a :: b :: x :: h) := .perm _ _ _ up2.symm (ret1 hr)
theorem word_calls {kp kb : Nat} (n : BN 3 kp kb penT) {A : V} (hA : bA A 3 kp) (l : List UInt8) (st : Int) (v : JV) (x : V) (h : Hp) (hF : fmd v = true) (hk : v.kind < 5) (hb : v.bk < 2 ^ 30) (hlen : l.length + (wordL v.kind v.num v.text).length < 2 ^ 47) :
    VCalls Tryz.prog 62 [.ptr 3 kp 0 0, .agg v.c5, x] (bH 3 kp kb A l [int st] h) (fun _ h' => bT 3 kp penT (l ++ wordL v.kind v.num v.text) [int st] h h') := by
  have hG := fmd_get hF
  have he := bk_eq v
  have k0 := hG.k0
  refine xc k62 rfl ?_
  unfold wordL at hlen ⊢
  unfold bH
  refine run ?_
  repeat' (first | (refine br_d (fun _ => ?_) (fun _ => ?_) <;> refine run ?_) | (refine br_nd (fun _ => ?_) (fun _ => ?_) <;> refine run ?_) | (refine Br.mk (fun _ => ?_) (fun _ => ?_) <;> refine run ?_) | (refine new_k fun _ => ?_; refine run ?_) | (refine VCalls.use (quote_calls v.text _ (hG.txt (by omega)) (by omega)) ?_; rintro _ _ ⟨rfl, rfl⟩; refine run ?_) | (refine VCalls.perm up2 (VCalls.use (writeString_calls n hA l _ [int st] _ (by simp_all)) ?_); rintro _ _ ⟨A2, kb2, hn2, hA2, rfl⟩; refine run ?_))
  all_goals ((refine ret2 (retv ⟨_, _, hn2, hA2, ?_⟩); simp_all [bH]; done))
theorem subl {sz kp kb : Nat} {A : V} {l l2 : List UInt8} {rest : List V} {x : Nat × HO} {h : Hp} (he : l2 = l) : (bH sz kp kb A l2 rest h).Sublist (bH sz kp kb A l rest (x :: h)) := by
  subst he
  exact .cons_cons _ (.cons_cons _ (List.sublist_cons_self _ _))
def PvIH (n : Nat) : Prop := ∀ v : JV, v.bk < n → fmd v = true → ∀ (kp kb : Nat) (A : V) (l : List UInt8) (st d : Int) (h : Hp), BN 3 kp kb penT → bA A 3 kp → 0 ≤ d → d + v.bk ≤ 2 ^ 21 → st ≤ 8 → l.length + (write v d st).length < 2 ^ 47 →
  VCalls Tryz.prog 26 [.ptr 3 kp 0 0, .agg v.c5, int d] (bH 3 kp kb A l [int st] h) (fun _ h' => bT 3 kp penT (l ++ write v d st) [int st] h h')
/-- What stands between brackets, and these. -/
def itemsL (v : JV) (o c : UInt8) (d st : Int) : List UInt8 := [o] ++ writeL v.kind v.items v.keys (d + 1) st true ++ ((if v.items = [] then [] else lineL d st) ++ [c])
theorem items_ih {n : Nat} (IH : PvIH n) (v : JV) (hv : v.bk < n + 1) (hf : fmd v = true) (o c : UInt8) {kp kb : Nat} {A : V} (l : List UInt8) (st d : Int) (h : Hp) (hn : BN 3 kp kb penT) (hA : bA A 3 kp) (h0 : 0 ≤ d) (hb : d + v.bk ≤ 2 ^ 21) (hst : st ≤ 8)
    (hlen : l.length + (itemsL v o c d st).length < 2 ^ 47) :
    VCalls Tryz.prog 103 [.ptr 3 kp 0 0, .agg v.c5, int d, .v (.int .u8 (o.toNat : Int)), .v (.int .u8 (c.toNat : Int))] (bH 3 kp kb A l [int st] h) (fun _ h' => bT 3 kp penT (l ++ itemsL v o c d st) [int st] h h') := by
  have hG := fmd_get hf
  have he := bk_eq v
  have hkl := keysB_len v.keys
  have hll := bkL_len v.items
  unfold itemsL at hlen ⊢
  simp only [List.length_append, List.length_cons, List.length_nil] at hlen
  refine xc k103 rfl ?_
  unfold bH
  refine run ?_
  refine new_k fun k6 => ?_
  refine run ?_
  refine VCalls.perm up2 (VCalls.use (writeByte_calls hn hA l o [int st] _ (by omega)) ?_)
  rintro _ _ ⟨A1, kb1, hn1, hA1, rfl⟩
  unfold bH
  refine run ?_
  refine lp (fun x : Nat × V × Nat => [(0, .ptr 3 kp 0 0), (2, int d), (4, .v (.int .u8 (c.toNat : Int))), (6, .ptr 5 k6 0 0), (18, .row 5 (v.items.map JV.cells)), (19, int v.items.length), (20, int x.1)]) (fun x => bH 3 kp x.2.2 x.2.1 (l ++ [o] ++ writeL v.kind (v.items.take x.1) v.keys (d + 1) st true) [int st] ((k6, .blk 5 [v.c5]) :: h)) (fun x => x.1 ≤ v.items.length ∧ BN 3 kp x.2.2 penT ∧ bA x.2.1 3 kp) (fun x => v.items.length - x.1) (wkx (0, A1, kb1) ⟨by omega, hn1, hA1⟩ fits (by simp [writeL, bH]; rfl)) ?_
  rintro ⟨i, A2, kb2⟩ ⟨hi, hn2, hA2⟩
  dsimp only at hi hn2 hA2 ⊢
  unfold bH
  have hlt := writeL_len_take v.kind (d + 1) st v.items v.keys i
  refine run ?_
  refine br_d (fun hb => ?_) (fun hb => ?_)
  · have hil : i < v.items.length := by omega
    have htk := writeL_take v.kind (d + 1) st v.items v.keys i hil
    have hlt2 := writeL_len_take v.kind (d + 1) st v.items v.keys (i + 1)
    rw [htk] at hlt2
    simp only [List.length_append] at hlt2
    have hml := bk_mem (List.getElem_mem hil)
    have hkm : (v.keys.getD i []).length ≤ keysB v.keys := by
      by_cases hk : i < v.keys.length
      · have hm : v.keys.getD i [] ∈ v.keys := by simp [List.getD, hk]
        have := keysB_mem hm; omega
      · simp [List.getD, hk]
    refine run ?_
    refine at_jv hil ?_
    refine run ?_
    refine new_k fun k11 => ?_
    refine run ?_
    have hk6 := hG.keys
    have hq := quote_len (v.keys.getD i [])
    have hsep : 0 < i → (if i = 0 then ([] : List UInt8) else [44]).length = 1 := fun h => by rw [if_neg (by omega)]; rfl
    have hkey : v.kind = 6 → (if v.kind = 6 then quote (v.keys.getD i []) ++ ([58] ++ (if st ≥ 0 then [32] else [])) else ([] : List UInt8)).length = (quote (v.keys.getD i [])).length + 1 + (if st ≥ 0 then [32] else ([] : List UInt8)).length := fun h => by rw [if_pos h]; simp; omega
    have hsp : 0 ≤ st → (if st ≥ 0 then [32] else ([] : List UInt8)).length = 1 := fun h => by rw [if_pos h]; rfl
    refine run ?_
    repeat' (first | (refine br_d (fun _ => ?_) (fun _ => ?_) <;> refine run ?_) | (refine br_nd (fun _ => ?_) (fun _ => ?_) <;> refine run ?_) | (refine Br.mk (fun _ => ?_) (fun _ => ?_) <;> refine run ?_) | (refine new_k fun _ => ?_; refine run ?_) | (refine VCalls.perm up2 (VCalls.use (writeByte_calls (by assumption) (by assumption) _ 44 [int st] _ (by simp only [List.length_append, List.length_cons, List.length_nil]; omega)) ?_); rintro _ _ ⟨A3, kb3, hn3, hA3, rfl⟩; unfold bH; refine run ?_) | (refine VCalls.use (line_calls (by assumption) (by assumption) _ st (d + 1) _ (by omega) (by omega) hst (by simp only [List.length_append, List.length_cons, List.length_nil]; omega)) ?_; rintro _ _ ⟨A4, kb4, hn4, hA4, rfl⟩; unfold bH; refine run ?_) | (refine VCalls.perm up2 (VCalls.use (line_calls (by assumption) (by assumption) _ st (d + 1) _ (by omega) (by omega) hst (by simp only [List.length_append, List.length_cons, List.length_nil]; omega)) ?_); rintro _ _ ⟨A4, kb4, hn4, hA4, rfl⟩; unfold bH; refine run ?_) | (refine at_key (by omega) ?_; refine run ?_) | (refine VCalls.use (quote_calls _ _ (hG.key (by omega) _ (by omega)) (by omega)) ?_; rintro _ _ ⟨rfl, rfl⟩; refine run ?_) | (refine VCalls.use (writeString_calls (by assumption) (by assumption) _ _ [int st] _ (by simp only [List.length_append, List.length_cons, List.length_nil]; omega)) ?_; rintro _ _ ⟨A5, kb5, hn5, hA5, rfl⟩; unfold bH; refine run ?_) | (refine VCalls.use (writeByte_calls (by assumption) (by assumption) _ 58 [int st] _ (by simp only [List.length_append, List.length_cons, List.length_nil]; omega)) ?_; rintro _ _ ⟨A6, kb6, hn6, hA6, rfl⟩; unfold bH; refine run ?_) | (refine VCalls.use (writeByte_calls (by assumption) (by assumption) _ 32 [int st] _ (by simp only [List.length_append, List.length_cons, List.length_nil]; omega)) ?_; rintro _ _ ⟨A7, kb7, hn7, hA7, rfl⟩; unfold bH; refine run ?_) | (refine VCalls.use (IH v.items[i] (by omega) (hG.item _ (List.getElem_mem hil)) kp _ _ _ st (d + 1) _ (by assumption) (by assumption) (by omega) (by omega) hst (by simp only [List.length_append, List.length_cons, List.length_nil]; omega)) ?_; rintro _ _ ⟨A8, kb8, hn8, hA8, rfl⟩; unfold bH; refine run ?_))
    all_goals ((refine wkl (i + 1, _, _) ?_ fits (subl ?_); exact ⟨⟨by dsimp only; omega, by assumption, by assumption⟩, by dsimp only; omega⟩; dsimp only; rw [htk]; by_cases hi0 : i = 0 <;> simp_all [List.append_assoc]; done))
  · obtain rfl : i = v.items.length := by omega
    rw [List.take_length] at *
    have hend : 0 < v.items.length → (if v.items = [] then [] else lineL d st).length = (lineL d st).length := fun h => by rw [if_neg (by rintro he; rw [he] at h; simp at h)]
    have hnil : ¬ 0 < v.items.length → v.items = [] := fun h => List.length_eq_zero_iff.1 (by omega)
    refine run ?_
    repeat' (first | (refine br_d (fun _ => ?_) (fun _ => ?_) <;> refine run ?_) | (refine br_nd (fun _ => ?_) (fun _ => ?_) <;> refine run ?_) | (refine Br.mk (fun _ => ?_) (fun _ => ?_) <;> refine run ?_) | (refine new_k fun _ => ?_; refine run ?_) | (refine VCalls.use (line_calls (by assumption) (by assumption) _ st d _ (by omega) (by omega) hst (by simp only [List.length_append, List.length_cons, List.length_nil]; omega)) ?_; rintro _ _ ⟨A4, kb4, hn4, hA4, rfl⟩; unfold bH; refine run ?_) | (refine VCalls.use (writeByte_calls (by assumption) (by assumption) _ c [int st] _ (by simp only [List.length_append, List.length_cons, List.length_nil]; omega)) ?_; rintro _ _ ⟨A3, kb3, hn3, hA3, rfl⟩; unfold bH; refine run ?_))
    all_goals ((refine ret2 (retv ⟨_, _, by assumption, by assumption, ?_⟩); first | (have hni := hnil (by omega); simp_all [bH, List.append_assoc]; done) | (have hni : v.items ≠ [] := List.length_pos_iff.1 (by omega); simp_all [bH, List.append_assoc]; done)))
theorem write_arr {v : JV} (h : v.kind = 5) (d st : Int) : write v d st = itemsL v 91 93 d st := by simp [write_eq, itemsL, h]
theorem write_obj {v : JV} (h : v.kind = 6) (d st : Int) : write v d st = itemsL v 123 125 d st := by simp [write_eq, itemsL, h]
theorem write_word {v : JV} (h : v.kind < 5) (d st : Int) : write v d st = wordL v.kind v.num v.text := by rw [write_eq, if_pos h]
theorem pvalue_ih {n : Nat} (IH : PvIH n) (v : JV) (hv : v.bk < n + 1) (hf : fmd v = true) {kp kb : Nat} {A : V} (l : List UInt8) (st d : Int) (h : Hp) (hn : BN 3 kp kb penT) (hA : bA A 3 kp) (h0 : 0 ≤ d) (hb : d + v.bk ≤ 2 ^ 21) (hst : st ≤ 8) (hlen : l.length + (write v d st).length < 2 ^ 47) :
    VCalls Tryz.prog 26 [.ptr 3 kp 0 0, .agg v.c5, int d] (bH 3 kp kb A l [int st] h) (fun _ h' => bT 3 kp penT (l ++ write v d st) [int st] h h') := by
  have hG := fmd_get hf
  have k0 := hG.k0
  have k6 := hG.k6
  refine xc k26 rfl ?_
  unfold bH
  refine run ?_
  refine new_k fun k4 => ?_
  refine run ?_
  refine br_d (fun h5 => ?_) (fun h5 => ?_)
  · rw [write_arr h5] at hlen ⊢
    refine run ?_
    refine VCalls.perm up2 ?_
    refine VCalls.use (R := fun _ h' => bT 3 kp penT (l ++ itemsL v 91 93 d st) [int st] ((k4, .blk 5 [v.c5]) :: h) h') ?_ ?_
    · refine xc k63 rfl ?_
      refine run ?_
      refine new_k fun k5 => ?_
      refine run ?_
      refine VCalls.perm up2 (VCalls.use (items_ih IH v hv hf 91 93 l st d _ hn hA h0 hb hst hlen) ?_)
      rintro _ _ ⟨A2, kb2, hn2, hA2, rfl⟩
      unfold bH
      refine run ?_
      exact ret2 (retv ⟨_, _, hn2, hA2, rfl⟩)
    rintro _ _ ⟨A2, kb2, hn2, hA2, rfl⟩
    unfold bH
    refine run ?_
    exact ret2 (retv ⟨_, _, hn2, hA2, rfl⟩)
  · refine run ?_
    refine br_d (fun h6 => ?_) (fun h6 => ?_)
    · rw [write_obj h6] at hlen ⊢
      refine run ?_
      refine VCalls.perm up2 ?_
      refine VCalls.use (R := fun _ h' => bT 3 kp penT (l ++ itemsL v 123 125 d st) [int st] ((k4, .blk 5 [v.c5]) :: h) h') ?_ ?_
      · refine xc k64 rfl ?_
        refine run ?_
        refine new_k fun k5 => ?_
        refine run ?_
        refine VCalls.perm up2 (VCalls.use (items_ih IH v hv hf 123 125 l st d _ hn hA h0 hb hst hlen) ?_)
        rintro _ _ ⟨A2, kb2, hn2, hA2, rfl⟩
        unfold bH
        refine run ?_
        exact ret2 (retv ⟨_, _, hn2, hA2, rfl⟩)
      rintro _ _ ⟨A2, kb2, hn2, hA2, rfl⟩
      unfold bH
      refine run ?_
      exact ret2 (retv ⟨_, _, hn2, hA2, rfl⟩)
    · rw [write_word (by omega)] at hlen ⊢
      refine run ?_
      refine VCalls.perm up2 (VCalls.use (word_calls hn hA l st v (int d) _ hf (by omega) (by omega) hlen) ?_)
      rintro _ _ ⟨A2, kb2, hn2, hA2, rfl⟩
      unfold bH
      refine run ?_
      exact ret2 (retv ⟨_, _, hn2, hA2, rfl⟩)
theorem pvIH : ∀ n, PvIH n
  | 0 => fun v hv => by omega
  | n + 1 => fun v hv hf kp kb A l st d h hn hA h0 hb hst hl => pvalue_ih (pvIH n) v hv hf l st d h hn hA h0 hb hst hl
theorem pvalue_calls (v : JV) (hf : fmd v = true) {kp kb : Nat} {A : V} (l : List UInt8) (st d : Int) (h : Hp) (hn : BN 3 kp kb penT) (hA : bA A 3 kp) (h0 : 0 ≤ d) (hb : d + v.bk ≤ 2 ^ 21) (hst : st ≤ 8) (hlen : l.length + (write v d st).length < 2 ^ 47) :
    VCalls Tryz.prog 26 [.ptr 3 kp 0 0, .agg v.c5, int d] (bH 3 kp kb A l [int st] h) (fun _ h' => bT 3 kp penT (l ++ write v d st) [int st] h h') := pvIH (v.bk + 1) v (by omega) hf kp kb A l st d h hn hA h0 hb hst hlen
end Go.Proofs.YtpiicncihccheaaGreatDoor
