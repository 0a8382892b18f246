/-
  The walks of PaceNone, PaceBounds and PaceSplits: each returns true for every input. No condition beyond what fits a kind.
-/
import Derived.Test.YtaiamlbaogjgaaaAwake
namespace Go.Proofs.Ytaiamlbaogjgaaa
set_option linter.unusedVariables false
open Go.RowKit

set_option maxHeartbeats 400000 in
theorem none_walk (n : Int) (_w0 : (Lit.int .i64 n).wf = true) (w : World) :
    Calls Try.prog 7 #[.int .i64 n] w fun e w' => e = .returned (.bool true) ∧ Below w.heap.size w w' := by
  go_enter Try.func7, Try.ntmps7
  go_wp2_with fail
  refine (tick_none n _).mono ?_
  rintro e W1 ⟨rfl, rfl⟩
  go_wp2_with fail
  refine (take_none _).mono ?_
  rintro e W1 ⟨rfl, rfl⟩
  go_wp2_with fail
  refine (level_none _).mono ?_
  rintro e W1 ⟨rfl, rfl⟩
  go_wp2_with fail
  refine (awake_any _).mono ?_
  rintro e W5 ⟨rfl, hb5⟩
  go_wp2_with fail
  go_ret
  exact ⟨rfl, hb5⟩

theorem float_lt {b : Nat} (h : (Lit.float .f64 b).wf = true) : b < 2 ^ 64 := by
  simpa [Lit.wf] using h

theorem self_eq {x : Nat} (h0 : 0 < x) (h : x ≤ Fl.inf) : (FloatKind.f64.format.order x x != some .eq) = false := by
  show (Ieee.double.order x x != some .eq) = false
  rcases Nat.lt_or_ge x Fl.inf with h' | h'
  · rw [Fl.order_small h' h', if_neg (Nat.lt_irrefl _), if_pos rfl]; rfl
  · have e : x = Fl.inf := by omega
    subst e; decide +kernel

set_option maxHeartbeats 400000 in
theorem bounds_walk (a : Nat) (w0 : (Lit.float .f64 a).wf = true) (b : Nat) (w1 : (Lit.float .f64 b).wf = true) (w : World) :
    Calls Try.prog 3 #[.float .f64 a, .float .f64 b] w fun e w' => e = .returned (.bool true) ∧ Below w.heap.size w w' := by
  have ha := float_lt w0
  have hb := float_lt w1
  have h0 : (FloatKind.f64.format.order a 0 == some .gt) = decide (0 < a ∧ a ≤ Fl.inf) := Fl.above_zero ha
  have HA := Lib.hid ha
  have HB := Lib.hid hb
  clear ha hb w0 w1
  obtain ⟨hx0, hx1⟩ := Fl.milli_bounds a
  obtain ⟨hy0, hy1⟩ := Fl.milli_bounds b
  by_cases hp : 0 < a ∧ a ≤ Fl.inf
  · have hs := self_eq hp.1 hp.2
    rw [decide_eq_true hp] at h0
    by_cases hle : (FloatKind.f64.format.order a b == some .lt || FloatKind.f64.format.order a b == some .eq) = true
    · have hm : Fl.milli a ≤ Fl.milli b := by
        obtain ⟨k1, k2⟩ := Fl.above hp.1 hp.2 HB.out hle
        exact Fl.milli_mono hp.1 k1 k2
      clear hp
      go_enter Try.func3, Try.ntmps3
      go_wp2_with fail
      refine (milli_any a _ HA.out).mono ?_
      rintro e W ⟨rfl, rfl⟩
      go_wp2_with fail
      refine (milli_any b _ HB.out).mono ?_
      rintro e W ⟨rfl, rfl⟩
      generalize Fl.milli a = x at *
      generalize Fl.milli b = y at *
      go_wp2_with fail
      refine (awake_any _).mono ?_
      rintro e W5 ⟨rfl, hb5⟩
      go_wp2_with fail
      go_ret
      exact ⟨rfl, hb5⟩
    · have hle' : (FloatKind.f64.format.order a b == some .lt || FloatKind.f64.format.order a b == some .eq) = false := by simpa using hle
      clear hp hle
      go_enter Try.func3, Try.ntmps3
      go_wp2_with fail
      refine (milli_any a _ HA.out).mono ?_
      rintro e W ⟨rfl, rfl⟩
      go_wp2_with fail
      refine (milli_any b _ HB.out).mono ?_
      rintro e W ⟨rfl, rfl⟩
      generalize Fl.milli a = x at *
      generalize Fl.milli b = y at *
      go_wp2_with fail
      refine (awake_any _).mono ?_
      rintro e W5 ⟨rfl, hb5⟩
      go_wp2_with fail
      go_ret
      exact ⟨rfl, hb5⟩
  · have hz : Fl.milli a = 0 := by unfold Fl.milli; rw [if_neg hp]
    rw [decide_eq_false hp] at h0
    have HZ : Hid _ := Lib.hid hz
    clear hz hp hx0 hx1
    cases hs : (FloatKind.f64.format.order a a != some .eq) <;> cases hle : (FloatKind.f64.format.order a b == some .lt || FloatKind.f64.format.order a b == some .eq)
    all_goals
      go_enter Try.func3, Try.ntmps3
      go_wp2_with fail
      refine (milli_any a _ HA.out).mono ?_
      rintro e W ⟨rfl, rfl⟩
      rw [HZ.out]
      go_wp2_with fail
      refine (milli_any b _ HB.out).mono ?_
      rintro e W ⟨rfl, rfl⟩
      generalize Fl.milli b = y at *
      go_wp2_with fail
      refine (awake_any _).mono ?_
      rintro e W5 ⟨rfl, hb5⟩
      go_wp2_with fail
      go_ret
      exact ⟨rfl, hb5⟩
end Go.Proofs.Ytaiamlbaogjgaaa
