/-
  The walk of Ints: whether two slices hold the same numbers. Condition: both read as lists.
-/
import Derived.Test.YtbnfjlchmpdgeaaAll
namespace Go.Proofs.Ytbnfjlchmpdgeaa
set_option linter.unusedVariables false
open Go.RowKit

/-- A slice value that reads as a list of numbers. -/
def Rd (w : World) (v : Value) (l : List Int) : Prop := ∃ A c, v = .slice A l.length c ∧ ∀ j, j < l.length → ∃ g o, A = some ⟨g, o, none⟩ ∧ w.cell? ⟨g, o + j, none⟩ = some (.int .i64 (l.getD j 0))
theorem Own.rd {w : World} {base : Nat} {v : Value} {l : List Int} (h : Own w base v l) : Rd w v l := by
  rcases h.2 with ⟨hv, hn⟩ | ⟨g, cap, cur, hv, hg, hh, hnc, hcm, hcs, htake⟩
  · exact ⟨none, 0, by rw [hv, hn], fun j hj => by omega⟩
  · refine ⟨_, _, hv, fun j hj => ⟨g, 0, rfl, ?_⟩⟩
    rw [Nat.zero_add, cell_of_row w g j cur 3 (0, 0) hh]
    have e : (cur.toList.take (l.length * 1))[j]? = cur.toList[j]? := by rw [List.getElem?_take, if_pos (by omega)]
    rw [htake] at e
    rw [← Array.getElem?_toList, ← e, List.getElem?_map, List.getD, List.getElem?_eq_getElem hj]
    rfl
theorem Rd.below {w w' : World} {v : Value} {l : List Int} (h : Rd w v l) (hb : Below w.heap.size w w') : Rd w' v l := by
  obtain ⟨A, c, hv, hc⟩ := h
  refine ⟨A, c, hv, fun j hj => ?_⟩
  obtain ⟨g, o, hA, hcell⟩ := hc j hj
  exact ⟨g, o, hA, (hb.cell (p := ⟨g, o + j, none⟩) (World.block_lt_of_cell? w _ hcell)).trans hcell⟩
theorem Rd.drewN {w : World} {v : Value} {l : List Int} (h : Rd w v l) (n : Nat) : Rd (w.drewN n) v l := h

/-- One by one. -/
def same (a b : List Int) : Bool := a == b
theorem same_no {a b : List Int} (h : a.length ≠ b.length) : same a b = false := by
  unfold same; rw [beq_eq_false_iff_ne]; intro e; exact h (by rw [e])
theorem same_diff {a b : List Int} (k : Nat) (h : a.getD k 0 ≠ b.getD k 0) : same a b = false := by
  unfold same; rw [beq_eq_false_iff_ne]; intro e; exact h (by rw [e])
theorem same_all {a b : List Int} (hl : a.length = b.length) (h : ∀ j, j < a.length → a.getD j 0 = b.getD j 0) : same a b = true := by
  unfold same; rw [beq_iff_eq]
  apply List.ext_getElem hl
  intro j h1 h2
  have := h j h1
  rwa [List.getD, List.getD, List.getElem?_eq_getElem h1, List.getElem?_eq_getElem h2] at this

set_option maxHeartbeats 800000 in
theorem ints_any (v1 v2 : Value) (l1 l2 : List Int) (w : World) (h1 : Rd w v1 l1) (h2 : Rd w v2 l2) (hl1 : l1.length ≤ 1000000) (hl2 : l2.length ≤ 1000000) :
    Calls Try.prog 17 #[v1, v2] w fun e w' => e = .returned (.bool (same l1 l2)) ∧ ∃ n, w' = w.drewN n := by
  obtain ⟨A1, c1, rfl, k1⟩ := h1
  obtain ⟨A2, c2, rfl, k2⟩ := h2
  have K1 := Lib.hid k1
  have K2 := Lib.hid k2
  clear k1 k2
  by_cases hn : l1.length = l2.length
  · have HN := Lib.hid hn
    have hne : ((l1.length : Int) != (l2.length : Int)) = false := by simp [hn]
    clear hn
    go_enter Try.func17, Try.ntmps17
    go_wp2_with fail
    go_loopw [5] (fun i wr => ∃ k : Nat, k ≤ l1.length ∧ i = .int .i64 k ∧ (∀ j, j < k → l1.getD j 0 = l2.getD j 0) ∧ ∃ n, wr = w.drewN n) (fun i _ => l1.length - (intOf i).toNat)
    case atStart => exact ⟨0, Nat.zero_le _, rfl, fun j h => by omega, 0, rfl⟩
    case round =>
      obtain ⟨k, hk, rfl, hx, q, rfl⟩ := hrel
      have HX := Lib.hid hx
      clear hx
      by_cases hlt : k < l1.length
      · obtain ⟨g1, o1, hA1, x1⟩ := K1.out k hlt
        have hlt2 : k < l2.length := by have := HN.out; omega
        obtain ⟨g2, o2, hA2, x2⟩ := K2.out k hlt2
        subst hA1 hA2
        generalize hy1 : l1.getD k 0 = y1 at *
        generalize hy2 : l2.getD k 0 = y2 at *
        have HY : Hid (l1.getD k 0 = y1 ∧ l2.getD k 0 = y2) := Lib.hid ⟨hy1, hy2⟩
        clear hy1 hy2
        by_cases hd : y1 = y2
        · subst hd
          go_wp2_with fail
          go_quiet (fail)
          go_wp2_with fail
          go_roundw
          case rel =>
            refine ⟨k + 1, by omega, by go_num, fun j hj => ?_, _, rfl⟩
            by_cases hjk : j = k
            · rw [hjk, HY.out.1, HY.out.2]
            · exact HX.out j (by omega)
          case measure => simp [intOf]; omega
        · have hdd : (y1 != y2) = true := by simpa using hd
          have HD := Lib.hid hd
          clear hd
          go_wp2_with fail
          go_quiet (fail)
          go_wp2_with fail
          go_ret
          exact ⟨ret_bool (same_diff k (by rw [HY.out.1, HY.out.2]; exact HD.out)).symm, _, World.drewN_drewN _ _ _⟩
      · have hk' : k = l1.length := by omega
        clear hlt
        have HK := Lib.hid hk'
        clear hk'
        have hge : ¬ (k : Int) < (l1.length : Int) := by have := HK.out; omega
        go_wp2_with fail
        go_ret
        exact ⟨ret_bool (same_all HN.out (fun j hj => HX.out j (by have := HK.out; omega))).symm, _, rfl⟩
  · have HN := Lib.hid hn
    have hne : ((l1.length : Int) != (l2.length : Int)) = true := by simpa using (fun h => hn (by omega))
    clear hn
    go_enter Try.func17, Try.ntmps17
    go_wp2_with fail
    go_ret
    exact ⟨ret_bool (same_no HN.out).symm, 0, rfl⟩
end Go.Proofs.Ytbnfjlchmpdgeaa
