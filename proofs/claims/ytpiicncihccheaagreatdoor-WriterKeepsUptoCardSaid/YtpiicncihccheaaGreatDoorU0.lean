/- UTF-8, plain: what a decoded rune is of the bytes it came from; no program. -/
import Derived.Lib.ValidLaws
import Derived.Lib.MapLaws
namespace Go.XW.U
open Go.Lib
/-- What the decoder says of a text that is UTF-8: a byte below 128, or a run of bytes above it; and it encodes to just these. -/
theorem encode_eq (r : Nat) : (Utf8.encode (r : Int)).data.toList = encodeRune (r : Int) := by
  unfold Utf8.encode encodeRune
  by_cases hv : Utf8.valid (r : Int) = true
  · simp only [hv, if_true]
    have hv2 := hv
    simp only [Utf8.valid, Bool.or_eq_true, Bool.and_eq_true, decide_eq_true_eq] at hv2
    simp only [Int.toNat_natCast]
    by_cases h1 : r < 128
    · rw [if_pos h1, encodeRuneZ_one (by omega) (by omega)]; rfl
    · rw [if_neg h1]
      by_cases h2 : r < 2048
      · rw [if_pos h2, encodeRuneZ_two (by omega) (by omega)]
        have e1 : (192 + (r : Int) / 64).toNat = 192 + r / 64 := by omega
        have e2 : (128 + (r : Int) % 64).toNat = 128 + r % 64 := by omega
        simp only [List.map_cons, List.map_nil, e1, e2]
      · rw [if_neg h2]
        by_cases h3 : r < 65536
        · rw [if_pos h3, encodeRuneZ_three (by omega)]
          have e1 : (224 + (r : Int) / 4096).toNat = 224 + r / 4096 := by omega
          have e2 : (128 + (r : Int) / 64 % 64).toNat = 128 + r / 64 % 64 := by omega
          have e3 : (128 + (r : Int) % 64).toNat = 128 + r % 64 := by omega
          simp only [List.map_cons, List.map_nil, e1, e2, e3]
        · rw [if_neg h3, encodeRuneZ_four (by omega) (by omega)]
          have e0 : (240 + (r : Int) / 262144).toNat = 240 + r / 262144 := by omega
          have e1 : (128 + (r : Int) / 4096 % 64).toNat = 128 + r / 4096 % 64 := by omega
          have e2 : (128 + (r : Int) / 64 % 64).toNat = 128 + r / 64 % 64 := by omega
          have e3 : (128 + (r : Int) % 64).toNat = 128 + r % 64 := by omega
          simp only [List.map_cons, List.map_nil, e0, e1, e2, e3]
  · have hv2 : ¬ ((0 ≤ (r : Int) ∧ (r : Int) < 55296) ∨ (57344 ≤ (r : Int) ∧ (r : Int) ≤ 1114111)) := by
      simpa [Utf8.valid, Bool.or_eq_true, Bool.and_eq_true, decide_eq_true_eq] using hv
    rw [if_neg hv, encodeRuneZ_bad (by omega)]
    rfl
structure Dec (l : List UInt8) : Prop where
  pos : 1 ≤ (decodeL l).2
  le : (decodeL l).2 ≤ l.length
  enc : (Utf8.encode ((decodeL l).1 : Int)).data.toList = l.take (decodeL l).2
  one : (decodeL l).1 < 128 → (decodeL l).2 = 1 ∧ l.take 1 = [UInt8.ofNat (decodeL l).1]
  more : 128 ≤ (decodeL l).1 → ∀ b ∈ l.take (decodeL l).2, 128 ≤ b.toNat
theorem dec (l : List UInt8) (hne : l ≠ []) (hv : ¬ ((decodeL l).1 = 65533 ∧ (decodeL l).2 = 1)) : Dec l := by
  have henc := encode_decode l hne hv
  have hl : 0 < l.length := List.length_pos_iff.2 hne
  rw [decodeL_N] at hv henc
  have k0 := (l.getD 0 0).toNat_lt
  have k1 := (l.getD 1 0).toNat_lt
  have k2 := (l.getD 2 0).toNat_lt
  have k3 := (l.getD 3 0).toNat_lt
  constructor
  · rw [decodeL_N]
    rcases decodeN_shape l.length (l.getD 0 0).toNat (l.getD 1 0).toNat (l.getD 2 0).toNat (l.getD 3 0).toNat with ⟨c, e⟩ | ⟨c1, c2, c3, cv, e⟩ | ⟨c1, c2, c3, c4, cv, cs, e⟩ | ⟨c1, c2, c3, c4, c5, cv, cw, e⟩ | e <;> rw [e] <;> dsimp only <;> omega
  · rw [decodeL_N]
    rcases decodeN_shape l.length (l.getD 0 0).toNat (l.getD 1 0).toNat (l.getD 2 0).toNat (l.getD 3 0).toNat with ⟨c, e⟩ | ⟨c1, c2, c3, cv, e⟩ | ⟨c1, c2, c3, c4, cv, cs, e⟩ | ⟨c1, c2, c3, c4, c5, cv, cw, e⟩ | e <;> rw [e] <;> dsimp only <;> omega
  · rw [decodeL_N, encode_eq]; exact henc
  · rw [decodeL_N]
    rcases decodeN_shape l.length (l.getD 0 0).toNat (l.getD 1 0).toNat (l.getD 2 0).toNat (l.getD 3 0).toNat with ⟨c, e⟩ | ⟨c1, c2, c3, cv, e⟩ | ⟨c1, c2, c3, c4, cv, cs, e⟩ | ⟨c1, c2, c3, c4, c5, cv, cw, e⟩ | e
    · rw [e]; intro _; exact ⟨rfl, by rw [takeA l hl, ← byteOfM]⟩
    · rw [e]; intro h; dsimp only at h; omega
    · rw [e]; intro h; dsimp only at h; omega
    · rw [e]; intro h; dsimp only at h; omega
    · rw [e] at hv; exact absurd ⟨rfl, rfl⟩ hv
  · rw [decodeL_N]
    rcases decodeN_shape l.length (l.getD 0 0).toNat (l.getD 1 0).toNat (l.getD 2 0).toNat (l.getD 3 0).toNat with ⟨c, e⟩ | ⟨c1, c2, c3, cv, e⟩ | ⟨c1, c2, c3, c4, cv, cs, e⟩ | ⟨c1, c2, c3, c4, c5, cv, cw, e⟩ | e
    · rw [e]; intro h; dsimp only at h; omega
    · rw [e]; intro h; dsimp only; rw [takeB l c2]; intro b hb; simp at hb; rcases hb with rfl | rfl <;> simp at * <;> omega
    · rw [e]; intro h; dsimp only; rw [takeC l c2]; intro b hb; simp at hb; rcases hb with rfl | rfl | rfl <;> simp at * <;> omega
    · rw [e]; intro h; dsimp only; rw [takeD l c2]; intro b hb; simp at hb; rcases hb with rfl | rfl | rfl | rfl <;> simp at * <;> omega
    · rw [e] at hv; exact absurd ⟨rfl, rfl⟩ hv
theorem valid_dec {l : List UInt8} (hne : l ≠ []) (h : validD l = true) : Dec l ∧ validD (l.drop (decodeL l).2) = true := by
  rw [validD_step l hne] at h
  split at h
  · cases h
  · rename_i hv; exact ⟨dec l hne hv, h⟩
/-- How many bytes a rune's encoding has that begins here; 0: none. -/
def wd (l : List UInt8) : Nat := if (decodeL l).1 = 65533 ∧ (decodeL l).2 = 1 then 0 else (decodeL l).2
theorem valid_wd (l : List UInt8) (hne : l ≠ []) : validD l = if wd l = 0 then false else validD (l.drop (wd l)) := by
  rw [validD_step l hne]
  unfold wd
  by_cases hv : (decodeL l).1 = 65533 ∧ (decodeL l).2 = 1
  · rw [if_pos hv, if_pos hv, if_pos rfl]
  · rw [if_neg hv, if_neg hv, if_neg (by have := (dec l hne hv).pos; omega)]
theorem wd_le (l : List UInt8) (hne : l ≠ []) : wd l ≤ l.length := by
  unfold wd
  split
  · omega
  · rename_i hv; exact (dec l hne hv).le
/-- The decoder at a place is the decoder of what stands from there on. -/
theorem decode_drop (s : List UInt8) (i : Nat) : Utf8.decode ⟨⟨s⟩⟩ i = decodeL (s.drop i) := by
  rw [decode_at, decodeL_N]
  have hg : ∀ k, (ByteArray.get! ⟨⟨s⟩⟩ (i + k)) = (s.drop i).getD k 0 := by
    intro k
    show (Array.mk s)[i + k]! = _
    simp [List.getD]; rfl
  have h0 : (ByteArray.get! ⟨⟨s⟩⟩ i) = (s.drop i).getD 0 0 := hg 0
  rw [h0, hg 1, hg 2, hg 3, List.length_drop]
  rfl
theorem wd_N (l : List UInt8) : wd l = if (decodeN l.length (l.getD 0 0).toNat (l.getD 1 0).toNat (l.getD 2 0).toNat (l.getD 3 0).toNat).1 = 65533 ∧ (decodeN l.length (l.getD 0 0).toNat (l.getD 1 0).toNat (l.getD 2 0).toNat (l.getD 3 0).toNat).2 = 1 then 0 else (decodeN l.length (l.getD 0 0).toNat (l.getD 1 0).toNat (l.getD 2 0).toNat (l.getD 3 0).toNat).2 := by
  unfold wd; rw [decodeL_N]
def loB (b : Nat) : Nat := if b = 224 then 160 else if b = 240 then 144 else 128
def hiB (b : Nat) : Nat := if b = 237 then 159 else if b = 244 then 143 else 191
theorem wN_1 (n b0 b1 b2 b3 : Nat) (h : b0 < 128) : decodeN n b0 b1 b2 b3 = (b0, 1) := by unfold decodeN; rw [if_pos h]
theorem wN_2 (n b0 b1 b2 b3 : Nat) (h : 194 ≤ b0) (h' : b0 ≤ 223) (h1 : 1 < n) (h2 : 128 ≤ b1) (h3 : b1 ≤ 191) : (decodeN n b0 b1 b2 b3).2 = 2 := by
  unfold decodeN
  repeat' split
  all_goals first | rfl | omega
theorem wN_3 (n b0 b1 b2 b3 : Nat) (h : 224 ≤ b0) (h' : b0 ≤ 239) (h1 : 2 < n) (h2 : 128 ≤ b1) (h3 : b1 ≤ 191) (h4 : 128 ≤ b2) (h5 : b2 ≤ 191) (h6 : loB b0 ≤ b1) (h7 : b1 ≤ hiB b0) : (decodeN n b0 b1 b2 b3).2 = 3 := by
  unfold loB at h6
  unfold hiB at h7
  unfold decodeN
  repeat' split
  all_goals first | rfl | (repeat' split at h6) <;> (repeat' split at h7) <;> omega
theorem wN_4 (n b0 b1 b2 b3 : Nat) (h : 240 ≤ b0) (h' : b0 ≤ 244) (h1 : 3 < n) (h2 : 128 ≤ b1) (h3 : b1 ≤ 191) (h4 : 128 ≤ b2) (h5 : b2 ≤ 191) (h8 : 128 ≤ b3) (h9 : b3 ≤ 191) (h6 : loB b0 ≤ b1) (h7 : b1 ≤ hiB b0) : (decodeN n b0 b1 b2 b3).2 = 4 := by
  unfold loB at h6
  unfold hiB at h7
  unfold decodeN
  repeat' split
  all_goals first | rfl | (repeat' split at h6) <;> (repeat' split at h7) <;> omega
theorem wN_0 (n b0 b1 b2 b3 : Nat) (h0 : 128 ≤ b0) (h0' : b0 < 256) (k1 : b1 < 256) (k2 : b2 < 256) (k3 : b3 < 256) (h2 : ¬ (194 ≤ b0 ∧ b0 ≤ 223 ∧ 1 < n ∧ 128 ≤ b1 ∧ b1 ≤ 191)) (h3 : ¬ (224 ≤ b0 ∧ b0 ≤ 239 ∧ 2 < n ∧ 128 ≤ b1 ∧ b1 ≤ 191 ∧ 128 ≤ b2 ∧ b2 ≤ 191 ∧ loB b0 ≤ b1 ∧ b1 ≤ hiB b0)) (h4 : ¬ (240 ≤ b0 ∧ b0 ≤ 244 ∧ 3 < n ∧ 128 ≤ b1 ∧ b1 ≤ 191 ∧ 128 ≤ b2 ∧ b2 ≤ 191 ∧ 128 ≤ b3 ∧ b3 ≤ 191 ∧ loB b0 ≤ b1 ∧ b1 ≤ hiB b0)) : decodeN n b0 b1 b2 b3 = (65533, 1) := by
  have el : loB b0 = 128 ∨ (b0 = 224 ∧ loB b0 = 160) ∨ (b0 = 240 ∧ loB b0 = 144) := by unfold loB; (repeat' split) <;> omega
  have eh : hiB b0 = 191 ∨ (b0 = 237 ∧ hiB b0 = 159) ∨ (b0 = 244 ∧ hiB b0 = 143) := by unfold hiB; (repeat' split) <;> omega
  rcases decodeN_shape n b0 b1 b2 b3 with ⟨c, e⟩ | ⟨c1, c2, c3, cv, e⟩ | ⟨c1, c2, c3, c4, cv, cs, e⟩ | ⟨c1, c2, c3, c4, c5, cv, cw, e⟩ | e
  · omega
  · exact absurd ⟨by omega, by omega, c2, by omega, by omega⟩ h2
  · exact absurd ⟨by omega, by omega, c2, by omega, by omega, by omega, by omega, by omega, by omega⟩ h3
  · exact absurd ⟨by omega, by omega, c2, by omega, by omega, by omega, by omega, by omega, by omega, by omega, by omega⟩ h4
  · exact e
end Go.XW.U
