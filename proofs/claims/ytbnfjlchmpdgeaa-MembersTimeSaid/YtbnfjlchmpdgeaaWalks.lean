/-
  The walks of package members, and of the reference of its layer. Conditions: what is noted fits int and a moment.
-/
import Derived.Test.YtbnfjlchmpdgeaaState
import Derived.StillTailTactics
import Derived.BigQuiet
import Derived.Deep.RegionWith
import Derived.Deep.RegionHeld3
import Derived.Outline
import Derived.IntWalk
import Derived.Deep.Cut
import Derived.Deep.DeepCutAuto
import Derived.ChangeKeysEq
namespace Go.Proofs.Ytbnfjlchmpdgeaa
set_option linter.unusedVariables false
open Go.RowKit

def clamp (n lo hi : Int) : Int := min (max n lo) hi
theorem ticks_any (n : Int) (w : World) : Calls Try.prog 20 #[.int .i64 n] w fun e w' => e = .returned (.int .i64 (clamp n 0 1048576)) ∧ w = w' := by
  go_enter Try.func20, Try.ntmps20
  go_wp2_with fail
  all_goals (go_ret; exact ⟨ret_int (by unfold clamp; omega), rfl⟩)
theorem rticks_any (n : Int) (w : World) : Calls Try.prog 21 #[.int .i64 n] w fun e w' => e = .returned (.int .i64 (clamp n 0 1048576)) ∧ w = w' := by
  go_enter Try.func21, Try.ntmps21
  go_wp2_with fail
  all_goals (go_ret; exact ⟨ret_int (by unfold clamp; omega), rfl⟩)

theorem ret_bool {a b : Bool} (h : a = b) : Ending.returned (.bool a) = .returned (.bool b) := by rw [h]
theorem is_any (n : Int) (w : World) : Calls Try.prog 22 #[.int .i64 n] w fun e w' => e = .returned (.bool (isB n)) ∧ w = w' := by
  by_cases h0 : 0 ≤ n <;> by_cases h1 : n < 8
  all_goals
    have hfin : isB n = decide (0 ≤ n ∧ n < 8) := by unfold isB; rfl
    have HF : Hid _ := Lib.hid hfin
    clear hfin
    go_enter Try.func22, Try.ntmps22
    go_wp2_with fail
    go_ret
    exact ⟨ret_bool (by rw [HF.out]; simp; try omega), rfl⟩
theorem rmoment_any (n : Int) (w : World) : Calls Try.prog 23 #[.int .i64 n] w fun e w' => e = .returned (.bool (momB n)) ∧ w = w' := by
  by_cases h0 : 0 ≤ n <;> by_cases h1 : n ≤ 1099511627776
  all_goals
    have hfin : momB n = decide (0 ≤ n ∧ n ≤ 1099511627776) := by unfold momB; rfl
    have HF : Hid _ := Lib.hid hfin
    clear hfin
    go_enter Try.func23, Try.ntmps23
    go_wp2_with fail
    go_ret
    exact ⟨ret_bool (by rw [HF.out]; simp; try omega), rfl⟩
theorem moment_any (n : Int) (w : World) : Calls Try.prog 25 #[.int .i64 n] w fun e w' => e = .returned (.bool (momB n)) ∧ w = w' := by
  by_cases h0 : 0 ≤ n <;> by_cases h1 : n ≤ 1099511627776
  all_goals
    have hfin : momB n = decide (0 ≤ n ∧ n ≤ 1099511627776) := by unfold momB; rfl
    have HF : Hid _ := Lib.hid hfin
    clear hfin
    go_enter Try.func25, Try.ntmps25
    go_wp2_with fail
    go_ret
    exact ⟨ret_bool (by rw [HF.out]; simp; try omega), rfl⟩

/-- Members in memory. -/
def Mem (w : World) (g : Nat) (t : Int) (h : St) : Prop := Blk w g 52 (pc t h)

theorem Mem.at_ {w : World} {g : Nat} {t : Int} {h : St} (hm : Mem w g t h) (i : Nat) (hi : i < 8) : w.cell? ⟨g, 1 + i * 3, none⟩ = some (.int .i64 (flagI (h i))) ∧ w.cell? ⟨g, 1 + i * 3 + 1, none⟩ = some (.int .i64 (incI (h i))) ∧ w.cell? ⟨g, 1 + i * 3 + 2, none⟩ = some (.int .i64 (nowI (h i))) := by
  obtain ⟨a, b, c⟩ := pc_at t h i hi
  exact ⟨(hm.cell _).trans a, (hm.cell _).trans b, (hm.cell _).trans c⟩

theorem info3 : (Try.prog.info? 3).isSome = true := by kernel_rfl
theorem cells3 : Try.prog.cellsOf 3 = 1 := by kernel_rfl
theorem arr_eq (w : World) (a b c x y z : Int) : (Op.equalIn 10000 49 (.agg #[.int .i64 a, .int .i64 b, .int .i64 c]) (.agg #[.int .i64 x, .int .i64 y, .int .i64 z])).run Try.prog w = .ok (a == x && b == y && c == z) w := by
  obtain ⟨i, hi⟩ := Option.isSome_iff_exists.1 info3
  rw [run_equalIn_array w 9999 _ _ Try.underlying49 hi, cells3]
  have h3 := Try.underlying3
  cases ha : (a == x) <;> cases hb : (b == y) <;> cases hc : (c == z) <;> simp [List.range, List.range.loop, Op.eqItems, part, go_sem, ha, hb, hc, h3]

/-- What 'of' answers: three numbers, and whether there is something. -/
def ofV (x : Option (Int × Int)) : Value := .tuple #[.agg #[.int .i64 (flagI x), .int .i64 (incI x), .int .i64 (nowI x)], .bool x.isSome]

theorem is_zero (x : Option (Int × Int)) : (flagI x == 0 && incI x == 0 && nowI x == 0) = !x.isSome := by
  cases x <;> rfl

theorem of_in (g : Nat) (t : Int) (h : St) (i : Nat) (hi : i < 8) (w : World) (hm : Mem w g t h) : Calls Try.prog 24 #[.pointer (some ⟨g, 0, none⟩), .int .i64 (i : Int)] w fun e w' =>
    e = .returned (ofV (h i)) ∧ Below w.heap.size w w' := by
  obtain ⟨c0, c1, c2⟩ := hm.at_ i hi
  unfold ofV
  have hlt := hm.lt
  have HM := Lib.hid hm
  clear hm
  have hz := is_zero (h i)
  have heq := fun (w : World) => arr_eq w (flagI (h i)) (incI (h i)) (nowI (h i)) 0 0 0
  rw [hz] at heq
  clear hz
  generalize flagI (h i) = a at *
  generalize incI (h i) = b at *
  generalize nowI (h i) = c at *
  generalize (h i).isSome = s at *
  go_enter Try.func24, Try.ntmps24
  go_wp2_with fail
  go_region
  go_wp2_with fail
  refine bodyPost_ret (v := .tuple #[.agg #[.int .i64 a, .int .i64 b, .int .i64 c], .bool s]) (by simp [results, Try.results24, go_sem]) rfl ⟨rfl, ?_⟩
  exact ((Below.refl _ _).alloc (Nat.le_refl _) _).drew

theorem of_out (p : Option Addr) (n : Int) (hn : p = none ∨ n < 0 ∨ 8 ≤ n) (hp : ∀ a, p = some a → a = ⟨a.block, 0, none⟩) (w : World) : Calls Try.prog 24 #[.pointer p, .int .i64 n] w fun e w' =>
    e = .returned (ofV none) ∧ Below w.heap.size w w' := by
  have h0 : ofV none = .tuple #[.agg #[.int .i64 0, .int .i64 0, .int .i64 0], .bool false] := rfl
  rw [h0]
  clear h0
  cases p with
  | none =>
    go_enter Try.func24, Try.ntmps24
    go_wp2_with fail
    refine bodyPost_ret (v := .tuple #[.agg #[.int .i64 0, .int .i64 0, .int .i64 0], .bool false]) (by simp [results, Try.results24, go_sem]) rfl ⟨rfl, ?_⟩
    exact (Below.refl _ _).alloc (Nat.le_refl _) _
  | some a =>
    obtain ⟨g, o, s⟩ := a
    have := hp _ rfl
    simp only [Addr.mk.injEq, true_and] at this
    obtain ⟨rfl, rfl⟩ := this
    clear hp
    by_cases h0 : n < 0
    · clear hn
      go_enter Try.func24, Try.ntmps24
      go_wp2_with fail
      refine bodyPost_ret (v := .tuple #[.agg #[.int .i64 0, .int .i64 0, .int .i64 0], .bool false]) (by simp [results, Try.results24, go_sem]) rfl ⟨rfl, ?_⟩
      exact (Below.refl _ _).alloc (Nat.le_refl _) _
    · have h1 : 8 ≤ n := by
        rcases hn with hn | hn | hn
        · exact absurd hn (by simp)
        · exact absurd hn h0
        · exact hn
      clear hn
      go_enter Try.func24, Try.ntmps24
      go_wp2_with fail
      refine bodyPost_ret (v := .tuple #[.agg #[.int .i64 0, .int .i64 0, .int .i64 0], .bool false]) (by simp [results, Try.results24, go_sem]) rfl ⟨rfl, ?_⟩
      exact (Below.refl _ _).alloc (Nat.le_refl _) _

/-- What is noted of a node, if it may be one. -/
def look (h : St) (n : Int) : Option (Int × Int) := if isB n then h n.toNat else none

theorem of_any (g : Nat) (t : Int) (h : St) (n : Int) (w : World) (hm : Mem w g t h) : Calls Try.prog 24 #[.pointer (some ⟨g, 0, none⟩), .int .i64 n] w fun e w' =>
    e = .returned (.tuple #[.agg #[.int .i64 (flagI (look h n)), .int .i64 (incI (look h n)), .int .i64 (nowI (look h n))], .bool (look h n).isSome]) ∧ Below w.heap.size w w' := by
  by_cases hb : isB n = true
  · have hl : look h n = h n.toNat := by unfold look; rw [if_pos hb]
    have hb' : 0 ≤ n ∧ n < 8 := by unfold isB at hb; exact of_decide_eq_true hb
    obtain ⟨i, rfl⟩ := Int.eq_ofNat_of_zero_le hb'.1
    rw [hl]
    exact of_in g t h i (by omega) w hm
  · have hl : look h n = none := by unfold look; rw [if_neg hb]
    have hb' : n < 0 ∨ 8 ≤ n := by
      unfold isB at hb
      have : ¬ (0 ≤ n ∧ n < 8) := fun h => hb (decide_eq_true h)
      omega
    rw [hl]
    exact of_out (some ⟨g, 0, none⟩) n (.inr hb') (fun a ha => by cases ha; rfl) w

theorem of_none (n : Int) (w : World) : Calls Try.prog 24 #[.pointer none, .int .i64 n] w fun e w' =>
    e = .returned (.tuple #[.agg #[.int .i64 0, .int .i64 0, .int .i64 0], .bool false]) ∧ Below w.heap.size w w' :=
  of_out none n (.inl rfl) (fun a ha => by cases ha) w

theorem new_any (n : Int) (w : World) : Calls Try.prog 9 #[.int .i64 n] w fun e w' =>
    e = .returned (.pointer (some ⟨w.heap.size, 0, none⟩)) ∧ Mem w' w.heap.size (clamp n 0 1048576) St.none ∧ w.heap.size < w'.heap.size ∧ Keeps (fun _ => False) w w' := by
  go_enter Try.func9, Try.ntmps9
  go_wp2_with fail
  refine (ticks_any n _).mono ?_
  rintro e w' ⟨rfl, rfl⟩
  go_wp2_with fail
  go_ret
  exact ⟨rfl, Blk.new _ _ _, by simp, (Keeps.refl _ _).alloc _⟩

theorem inc_any (g : Nat) (t : Int) (h : St) (n : Int) (w : World) (hm : Mem w g t h) : Calls Try.prog 15 #[.pointer (some ⟨g, 0, none⟩), .int .i64 n] w fun e w' =>
    e = .returned (.int .i64 (incA h n)) ∧ Below w.heap.size w w' := by
  have hfin : incA h n = if (look h n).isSome then incI (look h n) else -1 := by
    unfold incA look
    cases isB n <;> rfl
  have HF : Hid _ := Lib.hid hfin
  clear hfin
  go_enter Try.func15, Try.ntmps15
  go_wp2_with fail
  refine (of_any g t h n _ hm).mono ?_
  rintro e W ⟨rfl, hb⟩
  generalize look h n = x at *
  have hb' := hb.size
  cases x with
  | none =>
    go_wp2_with fail
    go_ret
    exact ⟨by rw [HF.out]; rfl, hb.alloc hb' _⟩
  | some x =>
    go_wp2_with fail
    go_ret
    exact ⟨by rw [HF.out]; rfl, hb.alloc hb' _⟩
theorem inc_none (n : Int) (w : World) : Calls Try.prog 15 #[.pointer none, .int .i64 n] w fun e w' =>
    e = .returned (.int .i64 (-1)) ∧ Below w.heap.size w w' := by
  go_enter Try.func15, Try.ntmps15
  go_wp2_with fail
  refine (of_none n _).mono ?_
  rintro e W ⟨rfl, hb⟩
  go_wp2_with fail
  go_ret
  exact ⟨rfl, hb.alloc hb.size _⟩
end Go.Proofs.Ytbnfjlchmpdgeaa
