/- Walks of utf.Quote. -/
import Derived.Test.YtpiicncihccheaaGreatDoorD1
import Derived.Test.YtpiicncihccheaaGreatDoorU0
namespace Go.Proofs.YtpiicncihccheaaGreatDoor
open Go.XW Go.XW.DU Go.Lib Go.XW.U
/- "hallmark/utf.Quote" -/
def c102 : S :=
  (.hook 0 (.op (some 2) (.p (.mv (.const (.string ⟨#[]⟩))))
  (.hook 1 (.op (some 6) (.p (.build [(.pointer none), (.slice none 0 0)] []))
  (.op (some 3) (.x (.allocT 74002 2 [(.pointer none), (.slice none 0 0)]))
  (.op none (.w (.st true 2 (.tmp 3) (.tmp 6)))
  (.hook 2 (.op (some 7) (.w (.call 29 [(.tmp 3), (.const (.int .u8 34))]))
  (.sq 3
    (.hook 3 (.op (some 8) (.p (.mv (.tmp 0)))
    (.op (some 9) (.x (.srng (.tmp 8)))
    (.block 0
      (.loop
        (.hook 4 (.op (some 10) (.x (.snxt (.tmp 9)))
        (.op (some 11) (.p (.ext (.tmp 10) 0))
        (.sq 0
          (.ite (.tmp 11)
            .done
            (.exit 0))
        (.block 1
          (.hook 5 (.op (some 12) (.p (.ext (.tmp 10) 2))
          (.op (some 5) (.p (.mv (.tmp 12)))
          (.hook 6 (.op (some 13) (.p (.mv (.tmp 5)))
          (.op (some 14) (.w (.call 125 [(.tmp 13)]))
          (.op (some 15) (.w (.call 28 [(.tmp 3), (.tmp 14)]))
          .done)))))))))))))))))
  (.hook 7 (.op (some 16) (.w (.call 29 [(.tmp 3), (.const (.int .u8 34))]))
  (.hook 8 (.op (some 17) (.w (.call 27 [(.tmp 3)]))
  (.op (some 2) (.p (.mv (.tmp 17)))
  .ret))))))))))))))
theorem k102 : compF Tryz.prog 102 = some (c102, [(.t 2)], 18) := by kernel_rfl
/- "hallmark/utf.said" -/
def c125 : S :=
  (.hook 0 (.op (some 2) (.p (.mv (.const (.string ⟨#[]⟩))))
  (.sq 1
    (.hook 1 (.op (some 3) (.p (.mv (.tmp 0)))
    (.block 0
      (.hook 2 (.op (some 5) (.p (.bin .eql (.tmp 3) (.const (.int .i32 34))))
      (.op (some 4) (.p (.mv (.tmp 5)))
      (.ite (.tmp 4)
        (.hook 3 (.op (some 2) (.p (.mv (.const (.string ⟨#[92, 34]⟩))))
        .ret))
        (.hook 4 (.op (some 7) (.p (.bin .eql (.tmp 3) (.const (.int .i32 92))))
        (.op (some 6) (.p (.mv (.tmp 7)))
        (.ite (.tmp 6)
          (.hook 5 (.op (some 2) (.p (.mv (.const (.string ⟨#[92, 92]⟩))))
          .ret))
          (.hook 6 (.op (some 9) (.p (.bin .eql (.tmp 3) (.const (.int .i32 8))))
          (.op (some 8) (.p (.mv (.tmp 9)))
          (.ite (.tmp 8)
            (.hook 7 (.op (some 2) (.p (.mv (.const (.string ⟨#[92, 98]⟩))))
            .ret))
            (.hook 8 (.op (some 11) (.p (.bin .eql (.tmp 3) (.const (.int .i32 12))))
            (.op (some 10) (.p (.mv (.tmp 11)))
            (.ite (.tmp 10)
              (.hook 9 (.op (some 2) (.p (.mv (.const (.string ⟨#[92, 102]⟩))))
              .ret))
              (.hook 10 (.op (some 13) (.p (.bin .eql (.tmp 3) (.const (.int .i32 10))))
              (.op (some 12) (.p (.mv (.tmp 13)))
              (.ite (.tmp 12)
                (.hook 11 (.op (some 2) (.p (.mv (.const (.string ⟨#[92, 110]⟩))))
                .ret))
                (.hook 12 (.op (some 15) (.p (.bin .eql (.tmp 3) (.const (.int .i32 13))))
                (.op (some 14) (.p (.mv (.tmp 15)))
                (.ite (.tmp 14)
                  (.hook 13 (.op (some 2) (.p (.mv (.const (.string ⟨#[92, 114]⟩))))
                  .ret))
                  (.hook 14 (.op (some 17) (.p (.bin .eql (.tmp 3) (.const (.int .i32 9))))
                  (.op (some 16) (.p (.mv (.tmp 17)))
                  (.ite (.tmp 16)
                    (.hook 15 (.op (some 2) (.p (.mv (.const (.string ⟨#[92, 116]⟩))))
                    .ret))
                    (.hook 16 (.op (some 19) (.p (.bin .eql (.tmp 3) (.const (.int .i32 127))))
                    (.op (some 18) (.p (.mv (.tmp 19)))
                    (.ite (.tmp 18)
                      (.hook 17 (.op (some 20) (.p (.mv (.tmp 0)))
                      (.op (some 21) (.w (.call 139 [(.tmp 20)]))
                      (.op (some 2) (.p (.mv (.tmp 21)))
                      .ret))))
                      .done)))))))))))))))))))))))))))))))))))
  (.sq 18
    (.hook 18 (.op (some 22) (.p (.mv (.tmp 0)))
    (.op (some 23) (.p (.bin .lss (.tmp 22) (.const (.int .i32 32))))
    (.ite (.tmp 23)
      (.hook 19 (.op (some 24) (.p (.mv (.tmp 0)))
      (.op (some 25) (.w (.call 139 [(.tmp 24)]))
      (.op (some 2) (.p (.mv (.tmp 25)))
      .ret))))
      .done))))
  (.hook 20 (.op (some 26) (.p (.mv (.tmp 0)))
  (.op (some 27) (.w (.lit true 1 1 [(.int .i32 0)] [(0, (1, (false, (.tmp 26))))]))
  (.op (some 28) (.x (.rst (.tmp 27)))
  (.op (some 2) (.p (.mv (.tmp 28)))
  .ret)))))))))
theorem k125 : compF Tryz.prog 125 = some (c125, [(.t 2)], 29) := by kernel_rfl
/- "hallmark/utf.unit" -/
def c139 : S :=
  (.hook 0 (.op (some 2) (.p (.mv (.const (.string ⟨#[]⟩))))
  (.hook 1 (.op (some 3) (.p (.mv (.tmp 0)))
  (.op (some 4) (.p (.bin .shr (.tmp 3) (.const (.int .u64 12))))
  (.op (some 5) (.p (.bin .and (.tmp 4) (.const (.int .i32 15))))
  (.op (some 6) (.p (.sidx (.const (.string ⟨#[48, 49, 50, 51, 52, 53, 54, 55, 56, 57, 97, 98, 99, 100, 101, 102]⟩)) (.tmp 5)))
  (.op (some 7) (.p (.mv (.tmp 0)))
  (.op (some 8) (.p (.bin .shr (.tmp 7) (.const (.int .u64 8))))
  (.op (some 9) (.p (.bin .and (.tmp 8) (.const (.int .i32 15))))
  (.op (some 10) (.p (.sidx (.const (.string ⟨#[48, 49, 50, 51, 52, 53, 54, 55, 56, 57, 97, 98, 99, 100, 101, 102]⟩)) (.tmp 9)))
  (.op (some 11) (.p (.mv (.tmp 0)))
  (.op (some 12) (.p (.bin .shr (.tmp 11) (.const (.int .u64 4))))
  (.op (some 13) (.p (.bin .and (.tmp 12) (.const (.int .i32 15))))
  (.op (some 14) (.p (.sidx (.const (.string ⟨#[48, 49, 50, 51, 52, 53, 54, 55, 56, 57, 97, 98, 99, 100, 101, 102]⟩)) (.tmp 13)))
  (.op (some 15) (.p (.mv (.tmp 0)))
  (.op (some 16) (.p (.bin .and (.tmp 15) (.const (.int .i32 15))))
  (.op (some 17) (.p (.sidx (.const (.string ⟨#[48, 49, 50, 51, 52, 53, 54, 55, 56, 57, 97, 98, 99, 100, 101, 102]⟩)) (.tmp 16)))
  (.op (some 18) (.w (.lit true 1 4 [(.int .u8 0)] [(0, (1, (false, (.tmp 6)))), (1, (1, (false, (.tmp 10)))), (2, (1, (false, (.tmp 14)))), (3, (1, (false, (.tmp 17))))]))
  (.op (some 19) (.r (.txt (.tmp 18)))
  (.op (some 20) (.p (.bin .add (.const (.string ⟨#[92, 117]⟩)) (.tmp 19)))
  (.op (some 2) (.p (.mv (.tmp 20)))
  .ret))))))))))))))))))))))
theorem k139 : compF Tryz.prog 139 = some (c139, [(.t 2)], 21) := by kernel_rfl
def hexd (k : Nat) : UInt8 := [48, 49, 50, 51, 52, 53, 54, 55, 56, 57, 97, 98, 99, 100, 101, 102].getD k 0
/-- A byte as it stands in a literal. -/
def qb (c : UInt8) : List UInt8 :=
  if c = 34 ∨ c = 92 then [92, c] else if c = 8 then [92, 98] else if c = 12 then [92, 102] else if c = 10 then [92, 110] else if c = 13 then [92, 114] else if c = 9 then [92, 116]
  else if c < 32 ∨ c = 127 then [92, 117, 48, 48, hexd (c.toNat / 16), hexd (c.toNat % 16)] else [c]
/-- A text as a literal. -/
def quote (l : List UInt8) : List UInt8 := [34] ++ l.flatMap qb ++ [34]
/-- A rune as it stands in a literal. -/
def sd (r : Nat) : List UInt8 := if r < 128 then qb (UInt8.ofNat r) else (Utf8.encode (r : Int)).data.toList
theorem bits_small : ∀ n : Fin 128, (bits .and .i32 ((n.val : Int).fdiv (2 ^ min (Int.toNat 12) IntKind.i32.bits)) 15 = ((0 : Nat) : Int) ∧ bits .and .i32 ((n.val : Int).fdiv (2 ^ min (Int.toNat 8) IntKind.i32.bits)) 15 = ((0 : Nat) : Int)) ∧
    bits .and .i32 ((n.val : Int).fdiv (2 ^ min (Int.toNat 4) IntKind.i32.bits)) 15 = ((n.val / 16 : Nat) : Int) ∧ bits .and .i32 (n.val : Int) 15 = ((n.val % 16 : Nat) : Int) := by decide +kernel
theorem unit_calls (n : Nat) (hn : n < 128) (h : Hp) : VCalls Tryz.prog 139 [.v (.int .i32 (n : Int))] h (fun v h' => v = vstr [92, 117, 48, 48, hexd (n / 16), hexd (n % 16)] ∧ h' = h) := by
  obtain ⟨⟨h1, h2⟩, h3, h4⟩ := bits_small ⟨n, hn⟩
  refine xc k139 rfl ?_
  refine run ?_
  refine ix_of _ h1 ?_
  refine run ?_
  refine ix_of _ h2 ?_
  refine run ?_
  refine ix_of _ h3 ?_
  refine Sd.mk (by show _ < 16; omega) ?_
  refine run ?_
  refine ix_of _ h4 ?_
  refine Sd.mk (by show _ < 16; omega) ?_
  refine run ?_
  refine new_k fun k => ?_
  refine run ?_
  refine ⟨nums [48, 48, hexd (n / 16), hexd (n % 16)], rfl, ?_⟩
  refine run ?_
  refine Sd.mk (by rw [ofNums_nums]; show 2 + 4 ≤ _; omega) ?_
  refine run ?_
  refine ret1 (retv ?_)
  refine ⟨?_, rfl⟩
  rw [ofNums_nums]
  rfl
theorem qb_ctl : ∀ n : Fin 128, (n.val < 32 ∨ n.val = 127) → n.val ≠ 8 → n.val ≠ 12 → n.val ≠ 10 → n.val ≠ 13 → n.val ≠ 9 → sd n.val = [92, 117, 48, 48, hexd (n.val / 16), hexd (n.val % 16)] := by decide +kernel
theorem qb_plain : ∀ n : Fin 128, ¬ (n.val < 32 ∨ n.val = 127) → n.val ≠ 34 → n.val ≠ 92 → sd n.val = runesL [(n.val : Int)] := by decide +kernel
theorem sd_plain (r : Nat) (h1 : ¬ (r < 32 ∨ r = 127)) (h2 : r ≠ 34) (h3 : r ≠ 92) : sd r = runesL [(r : Int)] := by
  by_cases hr : r < 128
  · exact qb_plain ⟨r, hr⟩ h1 h2 h3
  · unfold sd; rw [if_neg hr]; simp [runesL]
theorem said_calls (r : Nat) (h : Hp) : VCalls Tryz.prog 125 [.v (.int .i32 (r : Int))] h (fun v h' => v = vstr (sd r) ∧ h' = h) := by
  refine xc k125 rfl ?_
  refine runto 18 ?_
  refine br_d (fun h34 => ?_) (fun h34 => ?_)
  · obtain rfl : r = 34 := by omega
    refine run ?_
    exact retv ⟨rfl, rfl⟩
  refine runto 18 ?_
  refine br_d (fun h92 => ?_) (fun h92 => ?_)
  · obtain rfl : r = 92 := by omega
    refine run ?_
    exact retv ⟨rfl, rfl⟩
  refine runto 18 ?_
  refine br_d (fun h8 => ?_) (fun h8 => ?_)
  · obtain rfl : r = 8 := by omega
    refine run ?_
    exact retv ⟨rfl, rfl⟩
  refine runto 18 ?_
  refine br_d (fun h12 => ?_) (fun h12 => ?_)
  · obtain rfl : r = 12 := by omega
    refine run ?_
    exact retv ⟨rfl, rfl⟩
  refine runto 18 ?_
  refine br_d (fun h10 => ?_) (fun h10 => ?_)
  · obtain rfl : r = 10 := by omega
    refine run ?_
    exact retv ⟨rfl, rfl⟩
  refine runto 18 ?_
  refine br_d (fun h13 => ?_) (fun h13 => ?_)
  · obtain rfl : r = 13 := by omega
    refine run ?_
    exact retv ⟨rfl, rfl⟩
  refine runto 18 ?_
  refine br_d (fun h9 => ?_) (fun h9 => ?_)
  · obtain rfl : r = 9 := by omega
    refine run ?_
    exact retv ⟨rfl, rfl⟩
  refine runto 18 ?_
  refine br_d (fun h127 => ?_) (fun h127 => ?_)
  · obtain rfl : r = 127 := by omega
    refine run ?_
    refine VCalls.use (unit_calls 127 (by omega) _) ?_
    rintro _ _ ⟨rfl, rfl⟩
    refine run ?_
    exact retv ⟨rfl, rfl⟩
  refine run ?_
  refine br_d (fun h32 => ?_) (fun h32 => ?_)
  · refine run ?_
    refine VCalls.use (unit_calls r (by omega) _) ?_
    rintro _ _ ⟨rfl, rfl⟩
    refine run ?_
    refine retv ⟨?_, rfl⟩
    rw [qb_ctl ⟨r, by omega⟩ (by dsimp only; omega) (by dsimp only; omega) (by dsimp only; omega) (by dsimp only; omega) (by dsimp only; omega) (by dsimp only; omega)]
    rfl
  · refine run ?_
    refine new_k fun k => ?_
    refine run ?_
    refine ⟨[(r : Int)], rfl, ?_⟩
    refine run ?_
    refine ret1 (retv ?_)
    refine ⟨?_, rfl⟩
    rw [sd_plain r (by omega) (by omega) (by omega)]
    rfl
/-- A rune of a text that is UTF-8, as it stands in a literal: byte by byte. -/
theorem qb_id : ∀ (l : List UInt8), (∀ b ∈ l, 128 ≤ b.toNat) → l.flatMap qb = l
  | [], _ => rfl
  | b :: l, h => by
    have h1 := h b (by simp)
    have hb : qb b = [b] := by
      unfold qb
      have e : ∀ k : UInt8, k.toNat < 128 → b ≠ k := fun k hk he => by subst he; omega
      rw [if_neg (by rintro (he | he) <;> exact e _ (by decide) he), if_neg (e _ (by decide)), if_neg (e _ (by decide)), if_neg (e _ (by decide)), if_neg (e _ (by decide)), if_neg (e _ (by decide)), if_neg]
      rintro (he | he)
      · have : b.toNat < 32 := he
        omega
      · exact e _ (by decide) he
    rw [List.flatMap_cons, hb, qb_id l fun c hc => h c (List.mem_cons_of_mem _ hc)]
    rfl
theorem sd_dec {l : List UInt8} (hd : Dec l) : sd (decodeL l).1 = (l.take (decodeL l).2).flatMap qb := by
  unfold sd
  by_cases hr : (decodeL l).1 < 128
  · obtain ⟨h1, h2⟩ := hd.one hr
    rw [if_pos hr, h1, h2]
    simp
  · rw [if_neg hr, hd.enc, qb_id _ (hd.more (by omega))]
theorem qb_len (c : UInt8) : (qb c).length ≤ 6 := by
  unfold qb
  repeat' split
  all_goals simp
theorem flat_len : ∀ l : List UInt8, (l.flatMap qb).length ≤ 6 * l.length
  | [] => by simp
  | c :: l => by
    have h1 := qb_len c
    have h2 := flat_len l
    simp only [List.flatMap_cons, List.length_append, List.length_cons] at *
    omega
theorem quote_len (l : List UInt8) : (quote l).length ≤ 6 * l.length + 2 := by
  have := flat_len l
  simp only [quote, List.length_append, List.length_cons, List.length_nil]
  omega
/-- A builder at its start. -/
theorem VCalls.fresh {f : FuncId} {args : List V} {kp kb : Nat} {rest : List V} {h : Hp} {R : V → Hp → Prop} {RP : List PanicEntry → Hp → Prop} (sz : Nat)
    (hc : VCalls Tryz.prog f args (bH sz kp kb (.v (.pointer none)) [] rest h) R RP) : VCalls Tryz.prog f args ((kp, .blk sz [.v (.pointer none) :: .v (.slice none 0 0) :: rest]) :: (kb, .blk 1 []) :: h) R RP := by
  refine VCalls.perm (List.Perm.swap _ _ _) ?_
  have hrf : ∀ l : List V, LR VLe l l := fun l => by
    induction l with
    | nil => exact .nil
    | cons x l ih => exact .cons _ _ _ _ (.refl _) ih
  refine VCalls.gen (HS.views (HR.blk _ _ _ _ _ _ .nil (HR.blk _ _ _ _ _ _ (ER.cons _ _ _ _ (LR.cons _ _ _ _ (VLe.refl _) (LR.cons _ _ _ _ (VLe.nilosl 1 kb) (hrf rest))) .nil) (HR.same _)))) (hrf args) hc
theorem quote_calls (l : List UInt8) (h : Hp) (hv : validD l = true) (hl : l.length < 2 ^ 30) : VCalls Tryz.prog 102 [vstr l] h (fun v h' => v = vstr (quote l) ∧ h' = h) := by
  refine VCalls.name 1 5000 fun kb hkb => ?_
  refine xc k102 rfl ?_
  refine run ?_
  refine new_t fun kp hkp => ?_
  refine run ?_
  refine VCalls.fresh 2 ?_
  refine VCalls.use (writeByte_calls (c := 74002) ⟨hkp, by omega, by kernel_rfl, hkb, by omega⟩ (.inl rfl) [] 34 _ _ (by simp)) ?_
  rintro _ _ ⟨A, kb2, hn, hA, rfl⟩
  refine run ?_
  refine new_k fun k => ?_
  refine run ?_
  refine lp (fun x : Nat × V × Nat => [(0, vstr l), (3, .ptr 2 kp 0 0), (9, .ptr 1 k 0 0)]) (fun x => bH 2 kp x.2.2 x.2.1 ([34] ++ (l.take x.1).flatMap qb) [] ((k, .obj (.stringIter ⟨⟨l⟩⟩ x.1)) :: h)) (fun x => x.1 ≤ l.length ∧ BN 2 kp x.2.2 74002 ∧ bA x.2.1 2 kp ∧ validD (l.drop x.1) = true) (fun x => l.length - x.1) (.perm _ _ _ ?_ (wkx (0, A, kb2) ⟨by omega, hn, hA, hv⟩ fits rfl)) ?_
  · exact (List.Perm.cons _ (List.Perm.swap _ _ _)).trans (List.Perm.swap _ _ _)
  rintro ⟨p, A, kb⟩ ⟨hp, hn, hA, hv⟩
  dsimp only at hp hn hA hv ⊢
  have hfl : ((l.take p).flatMap qb).length ≤ 6 * l.length := Nat.le_trans (flat_len _) (by rw [List.length_take]; omega)
  unfold bH
  refine run ?_
  refine br_d (fun hb => ?_) (fun hb => ?_)
  · have hb' : p < l.length := hb
    have hne : l.drop p ≠ [] := by intro he; have := congrArg List.length he; simp at this; omega
    obtain ⟨hd, hv2⟩ := valid_dec hne hv
    have hle := hd.le
    have hpos := hd.pos
    rw [List.length_drop] at hle
    rw [List.drop_drop] at hv2
    have hsl : (sd (decodeL (l.drop p)).1).length ≤ 24 := by
      rw [sd_dec hd]
      refine Nat.le_trans (flat_len _) ?_
      rw [List.length_take]
      have : (decodeL (l.drop p)).2 ≤ 4 := by
        rw [decodeL_N]
        rcases decodeN_shape (l.drop p).length ((l.drop p).getD 0 0).toNat ((l.drop p).getD 1 0).toNat ((l.drop p).getD 2 0).toNat ((l.drop p).getD 3 0).toNat with ⟨c, e⟩ | ⟨c1, c2, c3, cv, e⟩ | ⟨c1, c2, c3, c4, cv, cs, e⟩ | ⟨c1, c2, c3, c4, c5, cv, cw, e⟩ | e <;> rw [e] <;> dsimp only <;> omega
      omega
    have htake : l.take (p + (decodeL (l.drop p)).2) = l.take p ++ (l.drop p).take (decodeL (l.drop p)).2 := by rw [List.take_add]
    rw [decode_drop]
    refine run ?_
    refine VCalls.use (said_calls _ _) ?_
    rintro _ _ ⟨rfl, rfl⟩
    refine run ?_
    refine VCalls.use (writeString_calls hn hA _ _ _ _ (by rw [List.length_append]; simp only [List.length_cons, List.length_nil]; omega)) ?_
    rintro _ _ ⟨A2, kb3, hn2, hA2, rfl⟩
    refine run ?_
    refine wkx (p + (decodeL (l.drop p)).2, A2, kb3) ⟨⟨by dsimp only; omega, hn2, hA2, hv2⟩, by dsimp only; omega⟩ fits ?_
    dsimp only
    rw [htake, List.flatMap_append, ← sd_dec hd, ← List.append_assoc]
    rfl
  · have hb' : ¬ p < l.length := hb
    obtain rfl : p = l.length := by omega
    rw [List.take_length] at hfl ⊢
    refine run ?_
    refine VCalls.use (writeByte_calls hn hA _ 34 _ _ (by rw [List.length_append]; simp only [List.length_cons, List.length_nil]; omega)) ?_
    rintro _ _ ⟨A2, kb3, hn2, hA2, rfl⟩
    refine run ?_
    refine VCalls.use (string_calls hn2 A2 _ _ _ (by simp) (by rw [List.length_append, List.length_append]; simp only [List.length_cons, List.length_nil]; omega)) ?_
    rintro _ _ ⟨rfl, rfl⟩
    refine run ?_
    exact ret1 (ret1 (retv ⟨rfl, rfl⟩))
end Go.Proofs.YtpiicncihccheaaGreatDoor
