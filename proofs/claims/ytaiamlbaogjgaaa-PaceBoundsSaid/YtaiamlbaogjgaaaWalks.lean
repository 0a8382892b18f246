/-
  The walks of package pace, and of the reference of its layer. Conditions: the arguments fit int; a bucket's three numbers lie within their bounds.
-/
import Derived.Test.YtaiamlbaogjgaaaMem
import Derived.Test.YtaiamlbaogjgaaaFloat
import Derived.Deep.RegionWith
import Derived.Deep.RegionHeld3
import Derived.BigQuiet
import Derived.Outline
import Derived.StillTailTactics
import Derived.IntWalk
namespace Go.Proofs.Ytaiamlbaogjgaaa
set_option linter.unusedVariables false
open Go.RowKit

theorem above_kilo {x : Nat} (hi : x ≤ Fl.inf) : (FloatKind.f64.format.order x 4652007308841189376 == some .gt || FloatKind.f64.format.order x 4652007308841189376 == some .eq) = decide (Fl.kilo ≤ x) := by
  show (Ieee.double.order x Fl.kilo == some .gt || Ieee.double.order x Fl.kilo == some .eq) = _
  rcases Nat.lt_or_ge x Fl.inf with h | h
  · rw [Fl.order_small h (by decide)]
    by_cases h1 : x < Fl.kilo
    · rw [if_pos h1, decide_eq_false (by omega)]; rfl
    · rw [if_neg h1, decide_eq_true (by omega)]
      by_cases h2 : x = Fl.kilo
      · rw [if_pos h2]; rfl
      · rw [if_neg h2]; rfl
  · have e : x = Fl.inf := by omega
    subst e
    decide +kernel

theorem milli_any (x : Nat) (w : World) (hx : x < 2 ^ 64) :
    Calls Try.prog 8 #[.float .f64 x] w fun e w' => e = .returned (.int .i64 (Fl.milli x)) ∧ w = w' := by
  have h0 : (FloatKind.f64.format.order x 0 == some .gt) = decide (0 < x ∧ x ≤ Fl.inf) := Fl.above_zero hx
  clear hx
  by_cases h : 0 < x ∧ x ≤ Fl.inf
  · rw [decide_eq_true h] at h0
    have hk := above_kilo h.2
    by_cases h1 : x < Fl.kilo
    · obtain ⟨y, hy, hz⟩ := Fl.mul_val h.1 h1 (Nat.lt_of_lt_of_le h1 (by decide))
      rw [decide_eq_false (by omega)] at hk
      have hmul := fun (w : World) => run_float_arith (P := Try.prog) w .mul 22 .f64 x 4652007308841189376 y hy
      have hcon := fun (w : World) => run_convert_float_int (P := Try.prog) (w := w) 22 3 .f64 .i64 y (Fl.milli x) (by rw [Try.underlying22]; rfl) Try.underlying3 hz
      clear hy hz
      go_enter Try.func8, Try.ntmps8
      go_wp2_with fail
      go_ret
      exact ⟨rfl, rfl⟩
    · have hm : Fl.milli x = 1000000 := by unfold Fl.milli; rw [if_pos h, if_neg h1]
      have HM : Hid _ := Lib.hid hm
      clear hm
      rw [decide_eq_true (by omega)] at hk
      go_enter Try.func8, Try.ntmps8
      go_wp2_with fail
      go_ret
      exact ⟨by rw [HM.out]; rfl, rfl⟩
  · have hm : Fl.milli x = 0 := by unfold Fl.milli; rw [if_neg h]
    have HM : Hid _ := Lib.hid hm
    clear hm
    rw [decide_eq_false h] at h0
    go_enter Try.func8, Try.ntmps8
    go_wp2_with fail
    go_ret
    exact ⟨by rw [HM.out]; rfl, rfl⟩

/-- A number from one to another one. -/
def clamp (n lo hi : Int) : Int := min (max n lo) hi

theorem ticks_any (n : Int) (w : World) : Calls Try.prog 17 #[.int .i64 n] w fun e w' => e = .returned (.int .i64 (clamp n 0 1048576)) ∧ w = w' := by
  go_enter Try.func17, Try.ntmps17
  go_wp2_with fail
  all_goals (go_ret; exact ⟨ret_int (by unfold clamp; omega), rfl⟩)

theorem rticks_any (n : Int) (w : World) : Calls Try.prog 18 #[.int .i64 n] w fun e w' => e = .returned (.int .i64 (clamp n 0 1048576)) ∧ w = w' := by
  go_enter Try.func18, Try.ntmps18
  go_wp2_with fail
  all_goals (go_ret; exact ⟨ret_int (by unfold clamp; omega), rfl⟩)

/-- A bucket in memory: thousandths, most, level. -/
def Bk (w : World) (g : Nat) (a b c : Int) : Prop := Blk w g 46 #[.int .i64 a, .int .i64 b, .int .i64 c]

theorem Bk.of {w : World} {g : Nat} {a b c a' b' c' : Int} (h : Blk w g 46 #[.int .i64 a', .int .i64 b', .int .i64 c']) (ha : a' = a) (hb : b' = b) (hc : c' = c) : Bk w g a b c := by
  subst ha hb hc; exact h

theorem new_any (a b : Int) (w : World) : Calls Try.prog 10 #[.int .i64 a, .int .i64 b] w fun e w' =>
    e = .returned (.pointer (some ⟨w.heap.size, 0, none⟩)) ∧ Bk w' w.heap.size (clamp a 0 1000000) (1000 * clamp b 1 256) (1000 * clamp b 1 256) ∧ w.heap.size < w'.heap.size ∧ Keeps (fun _ => False) w w' := by
  go_enter Try.func10, Try.ntmps10
  go_wp2_with fail
  all_goals
    go_ret
    exact ⟨rfl, Bk.of (Blk.new _ _ _) (by unfold clamp; omega) (by unfold clamp; omega) (by unfold clamp; omega), by simp, (Keeps.refl _ _).alloc _⟩

/-- A bucket of the reference, as a value. -/
def rB (a b c : Int) : Value := .agg #[.int .i64 a, .int .i64 b, .int .i64 c]
theorem rB_eq {a b c a' b' c' : Int} (ha : a' = a) (hb : b' = b) (hc : c' = c) : Ending.returned (.agg #[.int .i64 a', .int .i64 b', .int .i64 c']) = .returned (rB a b c) := by
  subst ha hb hc; rfl

theorem rnew_any (a b : Int) (w : World) : Calls Try.prog 11 #[.int .i64 a, .int .i64 b] w fun e w' =>
    e = .returned (rB (clamp a 0 1000000) (1000 * clamp b 1 256) (1000 * clamp b 1 256)) ∧ Below w.heap.size w w' := by
  go_enter Try.func11, Try.ntmps11
  go_wp2_with fail
  all_goals
    refine bodyPost_ret (v := .agg #[.int .i64 _, .int .i64 _, .int .i64 _]) (by simp [results, Try.results11, go_sem]; exact ⟨rfl, rfl, rfl⟩) rfl ⟨rB_eq (by unfold clamp; omega) (by unfold clamp; omega) (by unfold clamp; omega), ?_⟩
    exact (Below.refl _ _).alloc (Nat.le_refl _) _

/-- A bucket with its bounds. -/
structure Good (a b c : Int) : Prop where
  a0 : 0 ≤ a
  a1 : a ≤ 1000000
  b0 : 0 ≤ b
  b1 : b ≤ 256000
  c0 : 0 ≤ c
  c1 : c ≤ b

/-- Is there a token? What is left? -/
def enough (c : Int) : Bool := decide (1000 ≤ c)
def rest (c : Int) : Int := if 1000 ≤ c then c - 1000 else c
theorem enough_yes {c : Int} (h : 1000 ≤ c) : enough c = true ∧ rest c = c - 1000 := ⟨decide_eq_true h, if_pos h⟩
theorem enough_no {c : Int} (h : ¬ 1000 ≤ c) : enough c = false ∧ rest c = c := ⟨decide_eq_false h, if_neg h⟩
theorem Good.rest {a b c : Int} (h : Good a b c) : Good a b (rest c) := by
  have h0 := h.c0
  have h1 := h.c1
  refine ⟨h.a0, h.a1, h.b0, h.b1, ?_, ?_⟩ <;> unfold Ytaiamlbaogjgaaa.rest <;> split <;> omega

theorem take_any (g : Nat) (a b c : Int) (w : World) (h : Bk w g a b c) (hg : Good a b c) : Calls Try.prog 13 #[.pointer (some ⟨g, 0, none⟩)] w fun e w' =>
    e = .returned (.bool (enough c)) ∧ Bk w' g a b (rest c) ∧ Keeps (· = g) w w' ∧ w'.heap.size = w.heap.size := by
  have h2 := h.cell 2
  have hf := h.free 2
  have hc0 := hg.c0
  have hc1 : c ≤ 256000 := Int.le_trans hg.c1 hg.b1
  simp only [List.getElem?_toArray, List.getElem?_cons_succ, List.getElem?_cons_zero] at h2
  have H := Lib.hid h
  clear h
  by_cases hl : 1000 ≤ c
  · have E := Lib.hid (enough_yes hl)
    go_enter Try.func13, Try.ntmps13
    go_wp2_with fail
    go_ret
    exact ⟨by rw [E.out.1]; rfl, Bk.of (H.out.set 2 _) rfl rfl E.out.2.symm, (Keeps.refl _ _).setCell (S := (· = g)) (.inl rfl) _, by simp [World.setCell]⟩
  · have hd : decide (c < 1000) = true := decide_eq_true (by omega)
    have E := Lib.hid (enough_no hl)
    go_enter Try.func13, Try.ntmps13
    go_wp2_with fail
    go_ret
    exact ⟨by rw [E.out.1]; rfl, Bk.of H.out rfl rfl E.out.2.symm, Keeps.refl _ _, rfl⟩

theorem take_none (w : World) : Calls Try.prog 13 #[.pointer none] w fun e w' => e = .returned (.bool false) ∧ w = w' := by
  go_enter Try.func13, Try.ntmps13
  go_wp2_with fail
  go_ret
  exact ⟨rfl, rfl⟩

theorem level_any (g : Nat) (a b c : Int) (w : World) (h : Bk w g a b c) : Calls Try.prog 16 #[.pointer (some ⟨g, 0, none⟩)] w fun e w' => e = .returned (.int .i64 c) ∧ w = w' := by
  have h2 := h.cell 2
  simp only [List.getElem?_toArray, List.getElem?_cons_succ, List.getElem?_cons_zero] at h2
  have H := Lib.hid h
  clear h
  go_enter Try.func16, Try.ntmps16
  go_wp2_with fail
  go_ret
  exact ⟨rfl, rfl⟩

theorem level_none (w : World) : Calls Try.prog 16 #[.pointer none] w fun e w' => e = .returned (.int .i64 0) ∧ w = w' := by
  go_enter Try.func16, Try.ntmps16
  go_wp2_with fail
  go_ret
  exact ⟨rfl, rfl⟩

theorem tick_none (n : Int) (w : World) : Calls Try.prog 14 #[.pointer none, .int .i64 n] w fun e w' => e = .returned (.tuple #[]) ∧ w = w' := by
  go_enter Try.func14, Try.ntmps14
  go_wp2_with fail
  go_end0
  exact ⟨rfl, rfl⟩

/-- The lesser one. -/
def lesser (x y : Int) : Int := if y < x then y else x
theorem lesser_eq (x y : Int) : lesser x y = min x y := by unfold lesser; split <;> omega
theorem run_lesser {P : Program} (w : World) (ts : Array TypeId) (t : TypeId) (k k' : IntKind) (x y : Int) : (Builtin.min_ ts t #[.int k x, .int k' y]).run P w = .ok (.int k (lesser x y)) w := run_min_int2 w ts t k k' x y
attribute [local go_sem ↓] run_lesser

theorem ticks_at (n T : Int) (h : Hid (T = clamp n 0 1048576)) (w : World) : Calls Try.prog 17 #[.int .i64 n] w fun e w' => e = .returned (.int .i64 T) ∧ w = w' := by
  rw [h.out]; exact ticks_any n w

/-- Later. -/
def later (a b c n : Int) : Int := min b (c + clamp n 0 1048576 * a)
theorem clamp_in (n lo hi : Int) (h : lo ≤ hi) : lo ≤ clamp n lo hi ∧ clamp n lo hi ≤ hi := by unfold clamp; omega
theorem Good.later {a b c : Int} (h : Good a b c) (n : Int) : Good a b (later a b c n) := by
  have h0 := h.c0
  have h1 := h.b0
  have h2 : 0 ≤ clamp n 0 1048576 * a := Int.mul_nonneg (clamp_in n 0 1048576 (by omega)).1 h.a0
  refine ⟨h.a0, h.a1, h.b0, h.b1, ?_, ?_⟩ <;> unfold Ytaiamlbaogjgaaa.later <;> omega

theorem tick_any (g : Nat) (a b c n : Int) (w : World) (h : Bk w g a b c) (hg : Good a b c) : Calls Try.prog 14 #[.pointer (some ⟨g, 0, none⟩), .int .i64 n] w fun e w' =>
    e = .returned (.tuple #[]) ∧ Bk w' g a b (later a b c n) ∧ Keeps (· = g) w w' ∧ w'.heap.size = w.heap.size := by
  have h0 := h.cell 0
  have h1 := h.cell 1
  have h2 := h.cell 2
  have hf := h.free 2
  simp only [List.getElem?_toArray, List.getElem?_cons_succ, List.getElem?_cons_zero] at h0 h1 h2
  obtain ⟨T, hT⟩ : ∃ T, T = clamp n 0 1048576 := ⟨_, rfl⟩
  have ht0 : 0 ≤ T := by rw [hT]; exact (clamp_in _ _ _ (by omega)).1
  have ht1 : T ≤ 1048576 := by rw [hT]; exact (clamp_in _ _ _ (by omega)).2
  have hc0 := hg.c0
  have hc1 : c ≤ 256000 := Int.le_trans hg.c1 hg.b1
  have hp0 : 0 ≤ T * a := Int.mul_nonneg ht0 hg.a0
  have hp1 : T * a ≤ 1048576 * 1000000 := Int.mul_le_mul ht1 hg.a1 hg.a0 (by omega)
  have HT := Lib.hid hT
  have H := Lib.hid h
  clear h hT
  have e1 : IntKind.i64.wrap (T * a) = T * a := IntWalk.i64_in _ (by omega)
  have e2 : IntKind.i64.wrap (c + T * a) = c + T * a := IntWalk.i64_in _ (by omega)
  go_enter Try.func14, Try.ntmps14
  go_wp2_with fail
  go_still_tail 20, (by kernel_rfl)
  still_call ((ticks_at n T HT _).mono fun e w' ⟨he, hw⟩ => ⟨he, hw.symm⟩)
  repeat still_step
  refine wpStill_nil ?_
  go_wp2_with fail
  go_end0
  exact ⟨rfl, Bk.of ((H.out.set 2 _).drew) rfl rfl (by rw [lesser_eq, HT.out]; rfl), ((Keeps.refl _ _).setCell (S := (· = g)) (.inl rfl) _).drew, by simp [World.setCell]⟩

theorem rtake_any (a b c : Int) (w : World) (hg : Good a b c) : Calls Try.prog 12 #[rB a b c] w fun e w' =>
    e = .returned (.tuple #[rB a b (rest c), .bool (enough c)]) ∧ Below w.heap.size w w' := by
  unfold rB
  have hc0 := hg.c0
  have hc1 : c ≤ 256000 := Int.le_trans hg.c1 hg.b1
  by_cases hl : 1000 ≤ c
  · have E := Lib.hid (enough_yes hl)
    go_enter Try.func12, Try.ntmps12
    go_wp2_with fail
    refine bodyPost_ret (v := .tuple #[.agg #[.int .i64 a, .int .i64 b, .int .i64 (c - 1000)], .bool true]) (by simp [results, Try.results12, go_sem]) rfl ⟨by rw [E.out.1, E.out.2], ?_⟩
    exact ((Below.refl _ _).alloc (Nat.le_refl _) _).alloc (by simp) _
  · have hd : decide (c < 1000) = true := decide_eq_true (by omega)
    have E := Lib.hid (enough_no hl)
    go_enter Try.func12, Try.ntmps12
    go_wp2_with fail
    refine bodyPost_ret (v := .tuple #[.agg #[.int .i64 a, .int .i64 b, .int .i64 c], .bool false]) (by simp [results, Try.results12, go_sem]) rfl ⟨by rw [E.out.1, E.out.2], ?_⟩
    exact ((Below.refl _ _).alloc (Nat.le_refl _) _).alloc (by simp) _

theorem rticks_at (n T : Int) (h : Hid (T = clamp n 0 1048576)) (w : World) : Calls Try.prog 18 #[.int .i64 n] w fun e w' => e = .returned (.int .i64 T) ∧ w = w' := by
  rw [h.out]; exact rticks_any n w

theorem rtick_any (a b c n : Int) (w : World) (hg : Good a b c) : Calls Try.prog 15 #[rB a b c, .int .i64 n] w fun e w' =>
    e = .returned (rB a b (later a b c n)) ∧ Below w.heap.size w w' := by
  unfold rB
  obtain ⟨T, hT⟩ : ∃ T, T = clamp n 0 1048576 := ⟨_, rfl⟩
  have ht0 : 0 ≤ T := by rw [hT]; exact (clamp_in _ _ _ (by omega)).1
  have ht1 : T ≤ 1048576 := by rw [hT]; exact (clamp_in _ _ _ (by omega)).2
  have hc0 := hg.c0
  have hc1 : c ≤ 256000 := Int.le_trans hg.c1 hg.b1
  have hp0 : 0 ≤ T * a := Int.mul_nonneg ht0 hg.a0
  have hp1 : T * a ≤ 1048576 * 1000000 := Int.mul_le_mul ht1 hg.a1 hg.a0 (by omega)
  have hl : later a b c n = lesser b (c + T * a) := by rw [lesser_eq, hT]; rfl
  have HL : Hid _ := Lib.hid hl
  have HT := Lib.hid hT
  clear hT hl
  have e1 : IntKind.i64.wrap (T * a) = T * a := IntWalk.i64_in _ (by omega)
  have e2 : IntKind.i64.wrap (c + T * a) = c + T * a := IntWalk.i64_in _ (by omega)
  go_enter Try.func15, Try.ntmps15
  go_wp2_with fail
  obtain ⟨W, hW⟩ : ∃ W, W = (w.alloc (.cells #[.int .i64 a, .int .i64 b, .int .i64 c] 32)).alloc (.cells #[.int .i64 0, .int .i64 0, .int .i64 0] 32) := ⟨_, rfl⟩
  rw [← hW]
  have hb : Below w.heap.size w W := by rw [hW]; exact ((Below.refl _ _).alloc (Nat.le_refl _) _).alloc (by simp) _
  have hz : W.heap.size = w.heap.size + 2 := by rw [hW]; simp
  have k1 : Blk W w.heap.size 32 #[.int .i64 a, .int .i64 b, .int .i64 c] := (Blk.new w 32 #[.int .i64 a, .int .i64 b, .int .i64 c]).kept (S := fun _ => False) (by rw [hW]; exact (Keeps.refl _ _).alloc _) (fun h => h)
  have k2 : Blk W (w.heap.size + 1) 32 #[.int .i64 0, .int .i64 0, .int .i64 0] := by rw [hW]; simpa using Blk.new (w.alloc (.cells #[.int .i64 a, .int .i64 b, .int .i64 c] 32)) 32 #[.int .i64 0, .int .i64 0, .int .i64 0]
  have h0 := k1.cell 0
  have h1 := k1.cell 1
  have h2 := k1.cell 2
  have hf := k1.free 2
  have h3 := k2.cell 0
  have h4 := k2.cell 1
  have h5 := k2.cell 2
  have f3 := k2.free 0
  have f4 := k2.free 1
  have f5 := k2.free 2
  simp only [List.getElem?_toArray, List.getElem?_cons_succ, List.getElem?_cons_zero] at h0 h1 h2 h3 h4 h5
  have K1 := Lib.hid k1
  have K2 := Lib.hid k2
  have HZ := Lib.hid hz
  clear k1 k2 hz hW
  go_still_tail 12, (by kernel_rfl)
  still_call ((rticks_at n T HT _).mono fun e w' ⟨he, hw⟩ => ⟨he, hw.symm⟩)
  repeat still_step
  refine wpStill_nil ?_
  go_wp2_with fail
  refine bodyPost_ret (v := .agg #[.int .i64 a, .int .i64 b, .int .i64 (lesser b (c + T * a))]) (by simp [results, Try.results15, go_sem, h3, h4, h5]) rfl ⟨by rw [HL.out], ?_⟩
  exact ((((hb.setCell (Nat.le_refl _) _).setCell (by simp) _).setCell (by simp) _).setCell (by simp) _).drew
end Go.Proofs.Ytaiamlbaogjgaaa
