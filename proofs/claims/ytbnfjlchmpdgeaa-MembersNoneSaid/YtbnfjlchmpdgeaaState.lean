/-
  Plain: what members are: a timeout, and what is noted of each of eight nodes; the answers; the cells of both texts. No condition.
-/
import Derived.Test.YtbnfjlchmpdgeaaMem
namespace Go.Proofs.Ytbnfjlchmpdgeaa
open Go.RowKit

/-- What is noted of the nodes. -/
def St := Nat → Option (Int × Int)
def St.none : St := fun _ => .none
def St.upd (h : St) (i : Nat) (a b : Int) : St := fun j => if j = i then some (a, b) else h j

def flagI (x : Option (Int × Int)) : Int := if x.isSome then 1 else 0
def incI (x : Option (Int × Int)) : Int := (x.getD (0, 0)).1
def nowI (x : Option (Int × Int)) : Int := (x.getD (0, 0)).2

/-- The cells of the program's members. -/
def pc (t : Int) (h : St) : Array Value := #[.int .i64 t,
  .int .i64 (flagI (h 0)), .int .i64 (incI (h 0)), .int .i64 (nowI (h 0)), .int .i64 (flagI (h 1)), .int .i64 (incI (h 1)), .int .i64 (nowI (h 1)),
  .int .i64 (flagI (h 2)), .int .i64 (incI (h 2)), .int .i64 (nowI (h 2)), .int .i64 (flagI (h 3)), .int .i64 (incI (h 3)), .int .i64 (nowI (h 3)),
  .int .i64 (flagI (h 4)), .int .i64 (incI (h 4)), .int .i64 (nowI (h 4)), .int .i64 (flagI (h 5)), .int .i64 (incI (h 5)), .int .i64 (nowI (h 5)),
  .int .i64 (flagI (h 6)), .int .i64 (incI (h 6)), .int .i64 (nowI (h 6)), .int .i64 (flagI (h 7)), .int .i64 (incI (h 7)), .int .i64 (nowI (h 7))]

/-- The cells of the reference's. -/
def rc (t : Int) (h : St) : Array Value := #[.int .i64 t,
  .bool (h 0).isSome, .bool (h 1).isSome, .bool (h 2).isSome, .bool (h 3).isSome, .bool (h 4).isSome, .bool (h 5).isSome, .bool (h 6).isSome, .bool (h 7).isSome,
  .int .i64 (incI (h 0)), .int .i64 (incI (h 1)), .int .i64 (incI (h 2)), .int .i64 (incI (h 3)), .int .i64 (incI (h 4)), .int .i64 (incI (h 5)), .int .i64 (incI (h 6)), .int .i64 (incI (h 7)),
  .int .i64 (nowI (h 0)), .int .i64 (nowI (h 1)), .int .i64 (nowI (h 2)), .int .i64 (nowI (h 3)), .int .i64 (nowI (h 4)), .int .i64 (nowI (h 5)), .int .i64 (nowI (h 6)), .int .i64 (nowI (h 7))]

theorem pc_size (t : Int) (h : St) : (pc t h).size = 25 := rfl
theorem rc_size (t : Int) (h : St) : (rc t h).size = 25 := rfl
theorem pc_t (t : Int) (h : St) : (pc t h)[0]? = some (.int .i64 t) := rfl
theorem rc_t (t : Int) (h : St) : (rc t h)[0]? = some (.int .i64 t) := rfl
theorem pc_at (t : Int) (h : St) (i : Nat) (hi : i < 8) : (pc t h)[1 + i * 3]? = some (.int .i64 (flagI (h i))) ∧ (pc t h)[1 + i * 3 + 1]? = some (.int .i64 (incI (h i))) ∧ (pc t h)[1 + i * 3 + 2]? = some (.int .i64 (nowI (h i))) := by
  match i, hi with
  | 0, _ | 1, _ | 2, _ | 3, _ | 4, _ | 5, _ | 6, _ | 7, _ => exact ⟨rfl, rfl, rfl⟩
theorem rc_at (t : Int) (h : St) (i : Nat) (hi : i < 8) : (rc t h)[1 + i]? = some (.bool (h i).isSome) ∧ (rc t h)[9 + i]? = some (.int .i64 (incI (h i))) ∧ (rc t h)[17 + i]? = some (.int .i64 (nowI (h i))) := by
  match i, hi with
  | 0, _ | 1, _ | 2, _ | 3, _ | 4, _ | 5, _ | 6, _ | 7, _ => exact ⟨rfl, rfl, rfl⟩
theorem pc_set (t : Int) (h : St) (i : Nat) (hi : i < 8) (a b : Int) : (((pc t h).setIfInBounds (1 + i * 3) (.int .i64 1)).setIfInBounds (1 + i * 3 + 1) (.int .i64 a)).setIfInBounds (1 + i * 3 + 2) (.int .i64 b) = pc t (h.upd i a b) := by
  match i, hi with
  | 0, _ | 1, _ | 2, _ | 3, _ | 4, _ | 5, _ | 6, _ | 7, _ => rfl
theorem rc_set (t : Int) (h : St) (i : Nat) (hi : i < 8) (a b : Int) : (((rc t h).setIfInBounds (1 + i) (.bool true)).setIfInBounds (9 + i) (.int .i64 a)).setIfInBounds (17 + i) (.int .i64 b) = rc t (h.upd i a b) := by
  match i, hi with
  | 0, _ | 1, _ | 2, _ | 3, _ | 4, _ | 5, _ | 6, _ | 7, _ => rfl

/-- May it be a node? A moment? -/
def isB (n : Int) : Bool := decide (0 ≤ n ∧ n < 8)
def momB (n : Int) : Bool := decide (0 ≤ n ∧ n ≤ 1099511627776)
/-- The answers. -/
def hearB (h : St) (n a b : Int) : Bool := isB n && decide (0 ≤ a) && momB b && !((h n.toNat).isSome && decide (a < incI (h n.toNat)))
def hearS (h : St) (n a b : Int) : St := if hearB h n a b then h.upd n.toNat a b else h
def aliveB (t : Int) (h : St) (n b : Int) : Bool := isB n && (h n.toNat).isSome && momB b && decide (nowI (h n.toNat) ≤ b) && decide (b - nowI (h n.toNat) ≤ t)
def incA (h : St) (n : Int) : Int := if isB n && (h n.toNat).isSome then incI (h n.toNat) else -1
def allA (t : Int) (h : St) (b : Int) : List Int := ((List.range 8).map fun i : Nat => (i : Int)).filter fun n => aliveB t h n b

/-- The numbers noted are those that fit. -/
def Fits (h : St) : Prop := ∀ i, 0 ≤ incI (h i) ∧ incI (h i) ≤ 9223372036854775807 ∧ 0 ≤ nowI (h i) ∧ nowI (h i) ≤ 1099511627776
theorem Fits.none_ : Fits St.none := fun _ => by unfold St.none incI nowI; decide
theorem Fits.hear {h : St} (hf : Fits h) (n a b : Int) (ha : a ≤ 9223372036854775807) : Fits (hearS h n a b) := by
  unfold hearS
  by_cases hb : hearB h n a b = true
  · rw [if_pos hb]
    unfold hearB momB at hb
    simp only [Bool.and_eq_true, decide_eq_true_eq] at hb
    intro i
    unfold St.upd
    by_cases hi : i = n.toNat
    · simp only [hi, if_true]
      exact ⟨hb.1.1.2, ha, hb.1.2.1, hb.1.2.2⟩
    · simp only [hi, if_false]; exact hf i
  · rw [if_neg hb]; exact hf
end Go.Proofs.Ytbnfjlchmpdgeaa
