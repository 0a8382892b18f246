/-
  The walks of CrcSums, CrcOpens and CrcBack: each returns true for every text. No condition beyond a length that fits int.
-/
import Derived.Test.YtinkhlmjeimdcaaOpen
namespace Go.Proofs.Ytinkhlmjeimdcaa
open Go.RowKit

/-- two calls, one behind the other. -/
theorem then_ {a b c : World} (h : Below a.heap.size a b) (k : Below b.heap.size b c) : Below a.heap.size a c := h.trans (k.mono h.size)

set_option maxHeartbeats 400000 in
theorem sums_walk (s : ByteArray) (w0 : s.size ≤ maxLen) (w : World) :
    Calls Try.prog 3 #[.string s] w fun e w' => e = .returned (.bool true) ∧ Below w.heap.size w w' := by
  unfold maxLen at w0
  by_cases h : s.size > 20000
  · go_enter Try.func3, Try.ntmps3
    go_wp2_with fail
    go_ret
    exact ⟨rfl, Below.refl _ _⟩
  · go_enter Try.func3, Try.ntmps3
    go_wp2_with fail
    refine (sum_any _ _ (by unfold maxLen; omega)).mono ?_
    rintro e W1 ⟨rfl, hb1⟩
    go_wp2_with fail
    refine (rsum_any _ _ (by unfold maxLen; omega)).mono ?_
    rintro e W2 ⟨rfl, rfl⟩
    generalize Crc.sum s.data.toList = c
    go_wp2_with fail
    refine (seal_any _ _ (by unfold maxLen; omega)).mono ?_
    rintro e W3 ⟨rfl, hb3⟩
    go_wp2_with fail
    refine (rseal_any _ _ (by unfold maxLen; omega)).mono ?_
    rintro e W4 ⟨rfl, hb4⟩
    go_wp2_with fail
    refine (awake_any _).mono ?_
    rintro e W5 ⟨rfl, hb5⟩
    go_wp2_with fail
    go_ret
    exact ⟨rfl, then_ hb1 (then_ hb3 (then_ hb4 hb5))⟩

set_option maxHeartbeats 400000 in
theorem opens_walk (s : ByteArray) (w0 : s.size ≤ maxLen) (w : World) :
    Calls Try.prog 4 #[.string s] w fun e w' => e = .returned (.bool true) ∧ Below w.heap.size w w' := by
  unfold maxLen at w0
  by_cases h : s.size > 20000
  · go_enter Try.func4, Try.ntmps4
    go_wp2_with fail
    refine (awake_any _).mono ?_
    rintro e W5 ⟨rfl, hb5⟩
    go_wp2_with fail
    go_ret
    exact ⟨rfl, hb5⟩
  · go_enter Try.func4, Try.ntmps4
    go_wp2_with fail
    refine (open_any _ _ (by unfold maxLen; omega)).mono ?_
    rintro e W1 ⟨rfl, hb1⟩
    go_wp2_with fail
    refine (ropen_any _ _ (by unfold maxLen; omega)).mono ?_
    rintro e W2 ⟨rfl, hb2⟩
    go_wp2_with fail
    refine (awake_any _).mono ?_
    rintro e W5 ⟨rfl, hb5⟩
    go_wp2_with fail
    go_ret
    exact ⟨rfl, then_ hb1 (then_ hb2 hb5)⟩

theorem openB_cases (s : ByteArray) : (∃ r, Crc.openB s = (r, 0) ∧ Crc.sealB r = s ∧ r.size ≤ s.size) ∨ Crc.openB s = (⟨#[]⟩, 2) ∨ Crc.openB s = (⟨#[]⟩, 4) := by
  unfold Crc.openB
  by_cases h : s.size < 4
  · rw [if_pos h]; exact .inr (.inl rfl)
  · rw [if_neg h]
    by_cases he : Crc.sealB (s.extract 0 (s.size - 4)) = s
    · rw [if_pos he]; exact .inl ⟨_, rfl, he, by rw [ByteArray.size_extract]; omega⟩
    · rw [if_neg he]; exact .inr (.inr rfl)
theorem openB_sealB (s : ByteArray) : Crc.openB (Crc.sealB s) = (s, 0) := by
  have e : (Crc.sealB s).extract 0 ((Crc.sealB s).size - 4) = s := by
    rw [Crc.sealB_size, Nat.add_sub_cancel]
    unfold Crc.sealB
    apply ByteArray.ext
    rw [ByteArray.data_extract, ByteArray.data_append]
    have hz : s.size = s.data.size := rfl
    rw [hz]
    apply Array.toList_inj.1
    simp
    exact List.take_of_length_le (Nat.le_refl _)
  unfold Crc.openB
  rw [if_neg (by rw [Crc.sealB_size]; omega), e, if_pos rfl]

set_option maxHeartbeats 400000 in
theorem back_walk (s : ByteArray) (w0 : s.size ≤ maxLen) (w : World) :
    Calls Try.prog 5 #[.string s] w fun e w' => e = .returned (.bool true) ∧ Below w.heap.size w w' := by
  unfold maxLen at w0
  by_cases h : s.size > 20000
  · go_enter Try.func5, Try.ntmps5
    go_wp2_with fail
    refine (awake_any _).mono ?_
    rintro e W5 ⟨rfl, hb5⟩
    go_wp2_with fail
    go_ret
    exact ⟨rfl, hb5⟩
  · go_enter Try.func5, Try.ntmps5
    go_wp2_with fail
    refine (seal_any _ _ (by unfold maxLen; omega)).mono ?_
    rintro e W1 ⟨rfl, hb1⟩
    go_wp2_with fail
    refine (open_any _ _ (by unfold maxLen; rw [Crc.sealB_size]; omega)).mono ?_
    rintro e W2 ⟨rfl, hb2⟩
    rw [openB_sealB]
    go_wp2_with fail
    refine (open_any _ _ (by unfold maxLen; omega)).mono ?_
    rintro e W3 ⟨rfl, hb3⟩
    rcases openB_cases s with ⟨r, hr, hs, hz⟩ | hr | hr
    · rw [hr]
      have HS := Lib.hid hs
      clear hs hr
      go_wp2_with fail
      refine (seal_any _ _ (by unfold maxLen; omega)).mono ?_
      rintro e W4 ⟨rfl, hb4⟩
      rw [HS.out]
      go_wp2_with fail
      refine (awake_any _).mono ?_
      rintro e W5 ⟨rfl, hb5⟩
      go_wp2_with fail
      go_ret
      exact ⟨rfl, then_ hb1 (then_ hb2 (then_ hb3 (then_ hb4 hb5)))⟩
    all_goals
      rw [hr]
      clear hr
      go_wp2_with fail
      refine (awake_any _).mono ?_
      rintro e W5 ⟨rfl, hb5⟩
      go_wp2_with fail
      go_ret
      exact ⟨rfl, then_ hb1 (then_ hb2 (then_ hb3 hb5))⟩
end Go.Proofs.Ytinkhlmjeimdcaa
