/-
  MembersNone, walked. No condition.
-/
import Derived.Test.YtbnfjlchmpdgeaaAwake
namespace Go.Proofs.Ytbnfjlchmpdgeaa
set_option linter.unusedVariables false
open Go.RowKit

/-- A word in memory. -/
def Wd (w : World) (g : Nat) (n a b : Int) : Prop := Blk w g 32 #[.int .i64 n, .int .i64 a, .int .i64 b]
theorem Wd.cells {w : World} {g : Nat} {n a b : Int} (h : Wd w g n a b) : w.cell? ⟨g, 0, none⟩ = some (.int .i64 n) ∧ w.cell? ⟨g, 1, none⟩ = some (.int .i64 a) ∧ w.cell? ⟨g, 2, none⟩ = some (.int .i64 b) :=
  ⟨Blk.cell h 0, Blk.cell h 1, Blk.cell h 2⟩
theorem Wd.kept {S : Nat → Prop} {w w' : World} {g : Nat} {n a b : Int} (h : Wd w g n a b) (k : Keeps S w w') (hg : ¬ S g) : Wd w' g n a b := Blk.kept h k hg
theorem Wd.below {w w' : World} {g : Nat} {n a b : Int} (h : Wd w g n a b) (k : Below w.heap.size w w') : Wd w' g n a b := Blk.kept h (Keeps.of_below (S := fun _ => False) k) fun h => h
theorem Wd.new (w : World) (n a b : Int) : Wd (w.alloc (.cells #[.int .i64 n, .int .i64 a, .int .i64 b] 32)) w.heap.size n a b := Blk.new _ _ _

set_option maxRecDepth 100000 in
theorem none_true (n a b : Int) (w : World) : Calls Try.prog 7 #[.agg #[.int .i64 n, .int .i64 a, .int .i64 b]] w fun e w' => e = .returned (.bool true) ∧ Below w.heap.size w w' := by
  go_enter Try.func7, Try.ntmps7
  go_upto_region 1 with fail
  have hw := Wd.new w n a b
  have hb := (Below.refl w.heap.size w).alloc (Nat.le_refl _) (.cells #[.int .i64 n, .int .i64 a, .int .i64 b] 32)
  generalize w.alloc (.cells #[.int .i64 n, .int .i64 a, .int .i64 b] 32) = W at *
  obtain ⟨k0, k1, k2⟩ := hw.cells
  go_wp2_with fail
  refine (hear_none n a b _).mono ?_
  rintro e W1 ⟨rfl, hb1⟩
  replace hw := hw.below hb1
  replace hb := hb.trans (hb1.mono hb.size)
  clear k0 k1 k2 hb1
  obtain ⟨k0, k1, k2⟩ := hw.cells
  go_wp2_with fail
  refine (alive_none n b _).mono ?_
  rintro e W2 ⟨rfl, hb1⟩
  replace hw := hw.below hb1
  replace hb := hb.trans (hb1.mono hb.size)
  clear k0 k1 k2 hb1
  obtain ⟨k0, k1, k2⟩ := hw.cells
  go_wp2_with fail
  refine (all_none b _).mono ?_
  rintro e W3 ⟨rfl, hb1⟩
  replace hw := hw.below hb1
  replace hb := hb.trans (hb1.mono hb.size)
  clear k0 k1 k2 hb1
  obtain ⟨k0, k1, k2⟩ := hw.cells
  go_wp2_with fail
  refine (inc_none n _).mono ?_
  rintro e W4 ⟨rfl, hb1⟩
  replace hw := hw.below hb1
  replace hb := hb.trans (hb1.mono hb.size)
  clear k0 k1 k2 hb1
  go_wp2_with fail
  refine (awake_any _).mono ?_
  rintro e W5 ⟨rfl, hb1⟩
  go_wp2_with fail
  go_ret
  exact ⟨rfl, hb.trans (hb1.mono hb.size)⟩
end Go.Proofs.Ytbnfjlchmpdgeaa
