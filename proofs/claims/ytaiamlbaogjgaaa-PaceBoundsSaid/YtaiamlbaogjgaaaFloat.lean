/-
  Plain mathematics of rates: words of floats that are not negative, read as numbers; a product with 1000, rounded; what is below one cut off: all of it rises with the word. No condition.
-/
import Derived.Laws.FloatArith
namespace Go.Proofs.Ytaiamlbaogjgaaa
set_option linter.unusedVariables false
namespace Fl

def inf : Nat := 9218868437227405312
def kilo : Nat := 4652007308841189376

/-- The number of a rung, in units of the least one. -/
def V (r : Nat) : Nat := if r < 2 ^ 52 then r else (2 ^ 52 + r % 2 ^ 52) * 2 ^ (r / 2 ^ 52 - 1)

theorem V_succ (r : Nat) : V r < V (r + 1) := by
  unfold V
  by_cases h : r + 1 < 2 ^ 52
  · rw [if_pos (by omega), if_pos h]; omega
  · rw [if_neg h]
    by_cases h' : r < 2 ^ 52
    · have e : r + 1 = 2 ^ 52 := by omega
      rw [if_pos h', e, Nat.mod_self, Nat.div_self (Nat.two_pow_pos _)]
      simp only [Nat.sub_self, Nat.pow_zero]; omega
    · rw [if_neg h']
      by_cases ht : r % 2 ^ 52 + 1 = 2 ^ 52
      · have e1 : (r + 1) % 2 ^ 52 = 0 := by omega
        have e2 : (r + 1) / 2 ^ 52 - 1 = (r / 2 ^ 52 - 1) + 1 := by omega
        rw [e1, e2, show 2 ^ (r / 2 ^ 52 - 1 + 1) = 2 ^ (r / 2 ^ 52 - 1) * 2 from Nat.pow_succ _ _]
        have hp : 0 < 2 ^ (r / 2 ^ 52 - 1) := Nat.two_pow_pos _
        have : (2 ^ 52 + r % 2 ^ 52) * 2 ^ (r / 2 ^ 52 - 1) < (2 ^ 52 * 2) * 2 ^ (r / 2 ^ 52 - 1) := Nat.mul_lt_mul_of_pos_right (by omega) hp
        have e3 : (2 ^ 52 + 0) * (2 ^ (r / 2 ^ 52 - 1) * 2) = (2 ^ 52 * 2) * 2 ^ (r / 2 ^ 52 - 1) := by
          rw [Nat.add_zero, Nat.mul_comm (2 ^ (r / 2 ^ 52 - 1)) 2, Nat.mul_assoc]
        rw [e3]; exact this
      · have e1 : (r + 1) % 2 ^ 52 = r % 2 ^ 52 + 1 := by omega
        have e2 : (r + 1) / 2 ^ 52 - 1 = r / 2 ^ 52 - 1 := by omega
        rw [e1, e2]
        exact Nat.mul_lt_mul_of_pos_right (by omega) (Nat.two_pow_pos _)

theorem V_lt : ∀ {r s : Nat}, r < s → V r < V s := by
  intro r s h
  induction s with
  | zero => omega
  | succ s ih =>
    rcases Nat.lt_or_ge r s with h' | h'
    · exact Nat.lt_trans (ih h') (V_succ s)
    · have : r = s := by omega
      subst this; exact V_succ r
theorem V_le {r s : Nat} (h : r ≤ s) : V r ≤ V s := by
  rcases Nat.lt_or_ge r s with h' | h'
  · exact Nat.le_of_lt (V_lt h')
  · have : r = s := by omega
    subst this; exact Nat.le_refl _

/-- The nearest even one. -/
def rhe (n g : Nat) : Nat := n / g + (if g < 2 * (n % g) ∨ (g = 2 * (n % g) ∧ n / g % 2 = 1) then 1 else 0)

theorem rhe_le (n g : Nat) : n / g ≤ rhe n g ∧ rhe n g ≤ n / g + 1 := by
  unfold rhe; split <;> omega

theorem rhe_mono {n m g : Nat} (h : n ≤ m) : rhe n g ≤ rhe m g := by
  have hq : n / g ≤ m / g := Nat.div_le_div_right h
  rcases Nat.lt_or_ge (n / g) (m / g) with h' | h'
  · have := (rhe_le n g).2; have := (rhe_le m g).1; omega
  · have e : n / g = m / g := by omega
    have h1 := Nat.div_add_mod n g
    have h2 := Nat.div_add_mod m g
    have hm : n % g ≤ m % g := by rw [e] at h1; omega
    unfold rhe
    rw [e]
    split <;> split <;> omega

/-- The rung of a number, in units of 2 ^ -1117. -/
def ex (n : Nat) : Nat := max (n.log2 - 52) 43
def rng (n : Nat) : Nat := (ex n - 43) * 2 ^ 52 + rhe n (2 ^ ex n)

theorem log2_mono {n m : Nat} (h0 : n ≠ 0) (h : n ≤ m) : n.log2 ≤ m.log2 := by
  have hm : m ≠ 0 := by omega
  exact (Nat.le_log2 hm).2 (Nat.le_trans (Nat.log2_self_le h0) h)

theorem rng_mono {n m : Nat} (h0 : n ≠ 0) (h : n ≤ m) : rng n ≤ rng m := by
  have hl := log2_mono h0 h
  have he : ex n ≤ ex m := by unfold ex; omega
  unfold rng
  rcases Nat.lt_or_ge (ex n) (ex m) with h' | h'
  · have hn : n < 2 ^ (ex n + 53) := by
      have : n < 2 ^ (n.log2 + 1) := Nat.lt_log2_self
      exact Nat.lt_of_lt_of_le this (Nat.pow_le_pow_right (by omega) (by unfold ex; omega))
    have h1 : n / 2 ^ ex n < 2 ^ 53 := by
      rw [Nat.div_lt_iff_lt_mul (Nat.two_pow_pos _), ← Nat.pow_add, Nat.add_comm 53]; exact hn
    have hm0 : m ≠ 0 := by omega
    have hm1 : 2 ^ (ex m + 52) ≤ m := by
      have e : ex m + 52 = m.log2 := by unfold ex at *; omega
      rw [e]; exact Nat.log2_self_le hm0
    have h2 : 2 ^ 52 ≤ m / 2 ^ ex m := by
      rw [Nat.le_div_iff_mul_le (Nat.two_pow_pos _), ← Nat.pow_add, Nat.add_comm 52]; exact hm1
    have h3 := (rhe_le n (2 ^ ex n)).2
    have h4 := (rhe_le m (2 ^ ex m)).1
    have h5 : 43 ≤ ex n := by unfold ex; omega
    omega
  · have e : ex n = ex m := by omega
    rw [e]
    exact Nat.add_le_add_left (rhe_mono h) _

open Ieee

theorem read_small {x : Nat} (h : x < inf) : ∃ (m : Nat) (k : Nat), double.read x = .number false m ((k : Int) - 1074) ∧ m * 2 ^ k = V x ∧ (0 < x → 0 < m) := by
  unfold inf at h
  have hs : double.signWeight = 9223372036854775808 := by decide
  have hb : double.binade = 2 ^ 52 := by decide
  have hi : double.infRung = 9218868437227405312 := by decide
  have hl : double.leastPlace = -1074 := by decide
  have h1 : x / 9223372036854775808 % 2 = 0 := by omega
  have h2 : x % 9223372036854775808 = x := by omega
  unfold Format.read
  simp only [hs, hb, hi, hl, h1, h2]
  by_cases h52 : x < 2 ^ 52
  · rw [if_pos h52]
    refine ⟨x, 0, by simp, ?_, fun h => h⟩
    unfold V; rw [if_pos h52]; simp
  · rw [if_neg h52, if_pos h]
    refine ⟨2 ^ 52 + x % 2 ^ 52, x / 2 ^ 52 - 1, ?_, ?_, fun _ => by omega⟩
    · simp only [Datum.number.injEq, true_and]
      refine ⟨by decide, ?_⟩
      omega
    · unfold V; rw [if_neg h52]

theorem read_inf : double.read inf = .infinity false := by decide +kernel

/-- How two words that are not negative stand. -/
theorem order_small {x y : Nat} (hx : x < inf) (hy : y < inf) : double.order x y = some (if x < y then .lt else if x = y then .eq else .gt) := by
  obtain ⟨m, k, e1, h1, _⟩ := read_small hx
  obtain ⟨n, j, e2, h2, _⟩ := read_small hy
  unfold Format.order
  rw [e1, e2]
  simp only [Datum.order, signed, Bool.false_eq_true, if_false, Option.some.injEq]
  have key : ∀ a : Nat, a * 2 ^ ((min ((k : Int) - 1074) ((j : Int) - 1074) + 1074).toNat) = a * 2 ^ min k j := fun a => by congr 2; omega
  have ek : (((k : Int) - 1074) - min ((k : Int) - 1074) ((j : Int) - 1074)).toNat = k - min k j := by omega
  have ej : (((j : Int) - 1074) - min ((k : Int) - 1074) ((j : Int) - 1074)).toNat = j - min k j := by omega
  rw [ek, ej, Nat.shiftLeft_eq, Nat.shiftLeft_eq]
  have hk : (m * 2 ^ (k - min k j)) * 2 ^ min k j = V x := by rw [Nat.mul_assoc, ← Nat.pow_add, ← h1]; congr 2; omega
  have hj : (n * 2 ^ (j - min k j)) * 2 ^ min k j = V y := by rw [Nat.mul_assoc, ← Nat.pow_add, ← h2]; congr 2; omega
  have hp : 0 < 2 ^ min k j := Nat.two_pow_pos _
  generalize m * 2 ^ (k - min k j) = a at hk ⊢
  generalize n * 2 ^ (j - min k j) = b at hj ⊢
  clear key
  rw [Int.compare_eq_ite_lt]
  by_cases h : x < y
  · have hv := V_lt h
    rw [← hk, ← hj] at hv
    have hab : a < b := Nat.lt_of_mul_lt_mul_right hv
    rw [if_pos h, if_pos (by omega)]
  · rw [if_neg h]
    by_cases h' : x = y
    · subst h'
      have hab : a = b := Nat.eq_of_mul_eq_mul_right hp (by rw [hk, hj])
      rw [if_pos rfl, if_neg (by omega), if_neg (by omega)]
    · have hv := V_lt (show y < x by omega)
      rw [← hk, ← hj] at hv
      have hab : b < a := Nat.lt_of_mul_lt_mul_right hv
      rw [if_neg h', if_neg (by omega), if_pos (by omega)]

/-- What stands above nought. -/
theorem above_zero {x : Nat} (hw : x < 2 ^ 64) : (double.order x 0 == some .gt) = decide (0 < x ∧ x ≤ inf) := by
  have r0 : double.read 0 = .number false 0 (-1074) := by decide +kernel
  rcases Nat.lt_or_ge x inf with h | h
  · rw [order_small h (by decide)]
    by_cases h0 : 0 < x
    · rw [if_neg (by omega), if_neg (by omega), decide_eq_true ⟨h0, by omega⟩]; rfl
    · have e : x = 0 := by omega
      subst e; decide
  · by_cases hi : x = inf
    · subst hi
      unfold Format.order
      rw [read_inf, r0]; decide
    · rw [decide_eq_false (fun h' => by omega)]
      unfold inf at h hi
      have hs : double.signWeight = 9223372036854775808 := by decide
      have hb : double.binade = 2 ^ 52 := by decide
      have hi' : double.infRung = 9218868437227405312 := by decide
      have hl : double.leastPlace = -1074 := by decide
      unfold Format.order
      rw [r0]
      by_cases hn : x / 9223372036854775808 % 2 = 1
      · have hr : (∃ m k, double.read x = .number true m k) ∨ double.read x = .infinity true ∨ ∃ s, double.read x = .nan true s := by
          unfold Format.read
          simp only [hs, hb, hi', hl, hn, beq_self_eq_true]
          split
          · exact .inl ⟨_, _, rfl⟩
          · split
            · exact .inl ⟨_, _, rfl⟩
            · split
              · exact .inr (.inl rfl)
              · exact .inr (.inr ⟨_, rfl⟩)
        rcases hr with ⟨m, k, e⟩ | e | ⟨s, e⟩ <;> rw [e]
        · simp only [Datum.order, signed, if_true, Bool.false_eq_true, if_false]
          generalize m <<< (k - min k (-1074)).toNat = q
          rw [Nat.zero_shiftLeft, Int.compare_eq_ite_lt]
          split
          · rfl
          · split
            · rename_i h1 h2
              exfalso; omega
            · rfl
        · rfl
        · rfl
      · have hr : double.read x = .nan false (x % 9223372036854775808 - 9218868437227405312) := by
          have hf : (x / 9223372036854775808 % 2 == 1) = false := by simpa using hn
          unfold Format.read
          simp only [hs, hb, hi', hl, hf]
          rw [if_neg (by omega), if_neg (by omega), if_neg (by omega)]
        rw [hr]; rfl

/-- What stands not below a number above nought. -/
theorem above {x y : Nat} (hx0 : 0 < x) (hx : x ≤ inf) (hy : y < 2 ^ 64) (h : (double.order x y == some .lt || double.order x y == some .eq) = true) : x ≤ y ∧ y ≤ inf := by
  have hs : double.signWeight = 9223372036854775808 := by decide
  have hb : double.binade = 2 ^ 52 := by decide
  have hi' : double.infRung = 9218868437227405312 := by decide
  have hl : double.leastPlace = -1074 := by decide
  rcases Nat.lt_or_ge y inf with hy' | hy'
  · rcases Nat.lt_or_ge x inf with hx' | hx'
    · rw [order_small hx' hy'] at h
      by_cases h1 : x < y
      · exact ⟨by omega, by omega⟩
      · by_cases h2 : x = y
        · exact ⟨by omega, by omega⟩
        · rw [if_neg h1, if_neg h2] at h; exact absurd h (by decide)
    · have e : x = inf := by omega
      subst e
      obtain ⟨m, k, e1, _, _⟩ := read_small hy'
      unfold Format.order at h
      rw [read_inf, e1] at h
      exact absurd h (by simp only [Datum.order]; decide)
  · by_cases hi : y = inf
    · exact ⟨by omega, by omega⟩
    · exfalso
      unfold inf at hy' hi
      have hxr : (∃ m k, double.read x = .number false m k ∧ 0 < m) ∨ double.read x = .infinity false := by
        rcases Nat.lt_or_ge x inf with hx' | hx'
        · obtain ⟨m, k, e1, _, hm⟩ := read_small hx'
          exact .inl ⟨m, _, e1, hm hx0⟩
        · have e : x = inf := by omega
          subst e; exact .inr read_inf
      by_cases hn : y / 9223372036854775808 % 2 = 1
      · have hr : (∃ m k, double.read y = .number true m k) ∨ double.read y = .infinity true ∨ ∃ s, double.read y = .nan true s := by
          unfold Format.read
          simp only [hs, hb, hi', hl, hn, beq_self_eq_true]
          split
          · exact .inl ⟨_, _, rfl⟩
          · split
            · exact .inl ⟨_, _, rfl⟩
            · split
              · exact .inr (.inl rfl)
              · exact .inr (.inr ⟨_, rfl⟩)
        unfold Format.order at h
        rcases hxr with ⟨m, k, e, hm⟩ | e <;> rcases hr with ⟨n, j, e'⟩ | e' | ⟨s, e'⟩ <;> rw [e, e'] at h
        · simp only [Datum.order, signed, if_true, Bool.false_eq_true, if_false] at h
          rw [Int.compare_eq_ite_lt] at h
          have hpos : 0 < m <<< (k - min k j).toNat := by rw [Nat.shiftLeft_eq]; exact Nat.mul_pos hm (Nat.two_pow_pos _)
          generalize m <<< (k - min k j).toNat = q at h hpos
          generalize n <<< (j - min k j).toNat = q' at h
          rw [if_neg (by omega), if_pos (by omega)] at h
          exact absurd h (by decide)
        all_goals exact absurd h (by simp only [Datum.order]; decide)
      · have hr : double.read y = .nan false (y % 9223372036854775808 - 9218868437227405312) := by
          have hf : (y / 9223372036854775808 % 2 == 1) = false := by simpa using hn
          unfold Format.read
          simp only [hs, hb, hi', hl, hf]
          rw [if_neg (by omega), if_neg (by omega), if_neg (by omega)]
        unfold Format.order at h
        rw [hr] at h
        rcases hxr with ⟨m, k, e, hm⟩ | e <;> rw [e] at h <;> exact absurd h (by simp only [Datum.order]; decide)

/-- What is cut off at a place. -/
theorem cut_even (mag d : Nat) (h0 : mag ≠ 0) : Toward.even.cut false mag d = rhe mag (2 ^ d) := by
  unfold Toward.cut rhe
  simp only [Nat.shiftLeft_eq, Nat.one_mul]
  rcases Nat.lt_or_ge (mag.log2 + 2) d with h | h
  · rw [Nat.min_eq_right (by omega)]
    have hm : mag < 2 ^ (mag.log2 + 1) := Nat.lt_log2_self
    have h1 : mag * 2 < 2 ^ (mag.log2 + 2) := by
      rw [show mag.log2 + 2 = mag.log2 + 1 + 1 from rfl, Nat.pow_succ]; omega
    have h2 : 2 ^ (mag.log2 + 2) ≤ 2 ^ d := Nat.pow_le_pow_right (by omega) (by omega)
    rw [Nat.div_eq_of_lt (show mag < 2 ^ (mag.log2 + 2) by omega), Nat.mod_eq_of_lt (show mag < 2 ^ (mag.log2 + 2) by omega), Nat.div_eq_of_lt (show mag < 2 ^ d by omega), Nat.mod_eq_of_lt (show mag < 2 ^ d by omega)]
    rw [if_neg (by omega)]
    have e1 : (decide (2 ^ (mag.log2 + 2) < 2 * mag) || (2 ^ (mag.log2 + 2) == 2 * mag && 0 % 2 == 1)) = false := by
      rw [Bool.or_eq_false_iff]
      exact ⟨decide_eq_false (by omega), by simp⟩
    rw [e1]; rfl
  · rw [Nat.min_eq_left h]
    generalize 2 ^ d = g
    congr 1
    by_cases hc : g < 2 * (mag % g) ∨ (g = 2 * (mag % g) ∧ mag / g % 2 = 1)
    · rw [if_pos hc]
      have : (decide (g < 2 * (mag % g)) || (g == 2 * (mag % g) && mag / g % 2 == 1)) = true := by
        rw [Bool.or_eq_true, Bool.and_eq_true, decide_eq_true_iff, beq_iff_eq, beq_iff_eq]; exact hc
      rw [this]; rfl
    · rw [if_neg hc]
      have : (decide (g < 2 * (mag % g)) || (g == 2 * (mag % g) && mag / g % 2 == 1)) = false := by
        rw [← Bool.not_eq_true, Bool.or_eq_true, Bool.and_eq_true, decide_eq_true_iff, beq_iff_eq, beq_iff_eq]; exact hc
      rw [this]; rfl

theorem rhe_scale (n d k : Nat) : rhe (n * 2 ^ k) (2 ^ (d + k)) = rhe n (2 ^ d) := by
  unfold rhe
  have hk : 0 < 2 ^ k := Nat.two_pow_pos _
  rw [Nat.pow_add, Nat.mul_div_mul_right _ _ hk, Nat.mul_mod_mul_right]
  generalize 2 ^ d = g
  generalize n % g = r
  have e1 : (g * 2 ^ k < 2 * (r * 2 ^ k)) ↔ g < 2 * r := by
    rw [← Nat.mul_assoc]; exact Nat.mul_lt_mul_right hk
  have e2 : (g * 2 ^ k = 2 * (r * 2 ^ k)) ↔ g = 2 * r := by
    rw [← Nat.mul_assoc]
    exact ⟨fun h => Nat.eq_of_mul_eq_mul_right hk h, fun h => by rw [h]⟩
  simp only [e1, e2]

theorem log2_scale (n k : Nat) (h : n ≠ 0) : (n * 2 ^ k).log2 = n.log2 + k := by
  have hp : 0 < 2 ^ k := Nat.two_pow_pos _
  have h0 : n * 2 ^ k ≠ 0 := Nat.ne_of_gt (Nat.mul_pos (Nat.pos_of_ne_zero h) hp)
  apply Nat.le_antisymm
  · apply Nat.lt_succ_iff.1
    rw [Nat.log2_lt h0, Nat.succ_eq_add_one, show n.log2 + k + 1 = n.log2 + 1 + k by omega, Nat.pow_add]
    exact Nat.mul_lt_mul_of_pos_right Nat.lt_log2_self hp
  · rw [Nat.le_log2 h0, Nat.pow_add]
    exact Nat.mul_le_mul_right _ (Nat.log2_self_le h)

/-- What a number that is great enough is rounded to. -/
theorem nearest_eq (mag k : Nat) (hm : 2 ^ 52 ≤ mag) : double.nearest false mag ((k : Int) - 1117) = min (rng (mag * 2 ^ k)) inf := by
  have h0 : mag ≠ 0 := by have : 0 < 2 ^ 52 := Nat.two_pow_pos _; omega
  have hl : 52 ≤ mag.log2 := (Nat.le_log2 h0).2 hm
  have hf : (double.fractionBits : Int) = 52 := rfl
  have hp : double.leastPlace = -1074 := by decide
  have hb : double.binade = 2 ^ 52 := by decide
  have hi : double.infRung = inf := by decide
  unfold Format.nearest
  rw [if_neg h0]
  simp only [hf, hp, hb, hi, Format.word, Bool.false_eq_true, if_false]
  refine congrArg (fun z => min z inf) ?_
  unfold rng
  have e1 : (max ((k : Int) - 1117 + mag.log2 - 52) (-1074) - -1074).toNat = ex (mag * 2 ^ k) - 43 := by
    unfold ex; rw [log2_scale _ _ h0]; omega
  have e2 : ((k : Int) - 1117 - max ((k : Int) - 1117 + mag.log2 - 52) (-1074)).toNat = 0 := by omega
  obtain ⟨d, hd⟩ : ∃ d, ex (mag * 2 ^ k) = d + k := ⟨ex (mag * 2 ^ k) - k, by unfold ex; rw [log2_scale _ _ h0]; omega⟩
  have e3 : (max ((k : Int) - 1117 + mag.log2 - 52) (-1074) - ((k : Int) - 1117)).toNat = d := by
    have : ex (mag * 2 ^ k) = max ((mag.log2 + k) - 52) 43 := by unfold ex; rw [log2_scale _ _ h0]
    omega
  rw [e1, e2, e3, Nat.shiftLeft_zero, cut_even _ _ h0, hd, rhe_scale]

/-- 1000 in units of 2 ^ -43. -/
def C : Nat := 8796093022208000
theorem read_kilo : double.read kilo = .number false C (-43) := by decide +kernel

/-- The product with 1000. -/
theorem mul_kilo {x : Nat} (h0 : 0 < x) (h : x < inf) : double.mul x kilo = some (min (rng (V x * C)) inf) := by
  obtain ⟨m, k, e, hv, hm⟩ := read_small h
  unfold Format.mul
  rw [e, read_kilo]
  simp only [Datum.product, Option.map_some, Option.some.injEq, Format.write]
  have e1 : (k : Int) - 1074 + -43 = (k : Int) - 1117 := by omega
  have hx : (false ^^ false) = false := rfl
  have hC : 2 ^ 52 ≤ m * C := by
    have : 1 * C ≤ m * C := Nat.mul_le_mul_right _ (hm h0)
    have : 2 ^ 52 ≤ C := by decide
    omega
  rw [hx, e1, nearest_eq _ _ hC, ← hv]
  congr 2
  rw [Nat.mul_assoc, Nat.mul_comm C, ← Nat.mul_assoc]

theorem pow_cut (m k c : Nat) (h : c ≤ k) : m * 2 ^ k / 2 ^ c = m * 2 ^ (k - c) := by
  obtain ⟨d, rfl⟩ : ∃ d, k = c + d := ⟨k - c, by omega⟩
  rw [Nat.add_sub_cancel_left, Nat.pow_add, Nat.mul_left_comm, Nat.mul_div_cancel_left _ (Nat.two_pow_pos _)]
/-- What is left of a word as an integer. -/
theorem toInt_read {r : Nat} (h : r < inf) : (double.read r).toInt .zero = some ((V r / 2 ^ 1074 : Nat) : Int) := by
  obtain ⟨m, k, e, hv, _⟩ := read_small h
  rw [e]
  simp only [Datum.toInt, Datum.integral, signed, Bool.false_eq_true, if_false, Option.some.injEq, Nat.shiftLeft_zero]
  congr 1
  unfold Toward.cut
  simp only [Nat.shiftLeft_eq, Nat.one_mul, Bool.toNat_false, Nat.add_zero]
  rw [← hv]
  rcases Nat.lt_or_ge k 1074 with hk | hk
  · have e1 : ((k : Int) - 1074).toNat = 0 := by omega
    have e2 : (-((k : Int) - 1074)).toNat = 1074 - k := by omega
    rw [e1, e2, Nat.pow_zero, Nat.mul_one]
    have e3 : m * 2 ^ k / 2 ^ 1074 = m / 2 ^ (1074 - k) := by
      rw [show 1074 = (1074 - k) + k by omega, Nat.pow_add, Nat.mul_div_mul_right _ _ (Nat.two_pow_pos _)]
      simp
    rw [e3]
    rcases Nat.lt_or_ge (m.log2 + 2) (1074 - k) with h' | h'
    · rw [Nat.min_eq_right (by omega)]
      have hm : m < 2 ^ (m.log2 + 1) := Nat.lt_log2_self
      rw [Nat.div_eq_of_lt (Nat.lt_of_lt_of_le hm (Nat.pow_le_pow_right (by omega) (by omega))), Nat.div_eq_of_lt (Nat.lt_of_lt_of_le hm (Nat.pow_le_pow_right (by omega) (by omega)))]
    · rw [Nat.min_eq_left h']
  · have e1 : ((k : Int) - 1074).toNat = k - 1074 := by omega
    have e2 : (-((k : Int) - 1074)).toNat = 0 := by omega
    rw [e1, e2, Nat.zero_min, Nat.pow_zero, Nat.div_one]
    exact (pow_cut m _ _ hk).symm

/-- A rate below 1000, in thousandths. -/
def G (x : Nat) : Nat := V (rng (V x * C)) / 2 ^ 1074

theorem V_pos {x : Nat} (h : 0 < x) : V x * C ≠ 0 := by
  have h1 : 0 < V x := Nat.lt_of_le_of_lt (Nat.zero_le _) (V_lt h)
  have h2 : 0 < C := by decide
  exact Nat.ne_of_gt (Nat.mul_pos h1 h2)
theorem rng_le {x y : Nat} (h0 : 0 < x) (h : x ≤ y) : rng (V x * C) ≤ rng (V y * C) := rng_mono (V_pos h0) (Nat.mul_le_mul_right _ (V_le h))
theorem rng_kilo : rng (V kilo * C) < inf := by decide +kernel
theorem G_kilo : G kilo = 1000000 := by decide +kernel
theorem G_mono {x y : Nat} (h0 : 0 < x) (h : x ≤ y) : G x ≤ G y := Nat.div_le_div_right (V_le (rng_le h0 h))

/-- Thousandths of a rate: its word's. -/
def milli (x : Nat) : Int :=
  if 0 < x ∧ x ≤ inf then if x < kilo then (G x : Int) else 1000000 else 0

theorem milli_bounds (x : Nat) : 0 ≤ milli x ∧ milli x ≤ 1000000 := by
  unfold milli
  split
  · rename_i h
    split
    · rename_i h'
      have := G_mono h.1 (Nat.le_of_lt h')
      rw [G_kilo] at this; omega
    · omega
  · omega

theorem milli_mono {x y : Nat} (h0 : 0 < x) (h : x ≤ y) (hy : y ≤ inf) : milli x ≤ milli y := by
  have hb := (milli_bounds x).2
  have hx : x ≤ inf := by omega
  by_cases h1 : y < kilo
  · have h2 : x < kilo := by omega
    have := G_mono h0 h
    unfold milli
    rw [if_pos ⟨h0, hx⟩, if_pos h2, if_pos ⟨by omega, hy⟩, if_pos h1]
    omega
  · have e : milli y = 1000000 := by unfold milli; rw [if_pos ⟨by omega, hy⟩, if_neg h1]
    rw [e]; exact hb

theorem bits_mul (x y : Nat) : floatBits .mul .f64 x y = double.mul x y := rfl
theorem decode_read (x : Nat) : FloatKind.f64.decode x = double.read x := rfl
theorem milli_G {x : Nat} (h0 : 0 < x) (h : x < kilo) (hi : x ≤ inf) : milli x = (G x : Int) := by
  unfold milli; rw [if_pos ⟨h0, hi⟩, if_pos h]

theorem prod_val {x : Nat} (h0 : 0 < x) (hi : x < inf) (hr : rng (V x * C) < inf) : floatBits .mul .f64 x kilo = some (rng (V x * C)) := by
  rw [bits_mul, mul_kilo h0 hi, Nat.min_eq_left (Nat.le_of_lt hr)]

theorem toInt_val {r : Nat} (hr : r < inf) (z : Int) (hz : ((V r / 2 ^ 1074 : Nat) : Int) = z) (h0 : 0 ≤ z) (h1 : z ≤ 1000000) : floatToIntVal .f64 r .i64 = some z := by
  have ht := toInt_read hr
  rw [hz] at ht
  unfold floatToIntVal
  rw [decode_read, ht]
  clear ht hz hr
  have h2 : IntKind.i64.min = -9223372036854775808 := by decide
  have h3 : IntKind.i64.max = 9223372036854775807 := by decide
  exact if_pos ⟨by omega, by omega⟩

theorem rng_lt {x : Nat} (h0 : 0 < x) (h : x < kilo) : rng (V x * C) < inf := Nat.lt_of_le_of_lt (rng_le h0 (Nat.le_of_lt h)) rng_kilo
theorem G_eq (x : Nat) : ((V (rng (V x * C)) / 2 ^ 1074 : Nat) : Int) = (G x : Int) := rfl

/-- The product, and what is cut off. -/
theorem mul_val {x : Nat} (h0 : 0 < x) (h : x < kilo) (hi : x < inf) : ∃ y, floatBits .mul .f64 x kilo = some y ∧ floatToIntVal .f64 y .i64 = some (milli x) :=
  ⟨rng (V x * C), prod_val h0 hi (rng_lt h0 h), toInt_val (rng_lt h0 h) (milli x) ((G_eq x).trans (milli_G h0 h (Nat.le_of_lt hi)).symm) (milli_bounds x).1 (milli_bounds x).2⟩

end Fl
end Go.Proofs.Ytaiamlbaogjgaaa
