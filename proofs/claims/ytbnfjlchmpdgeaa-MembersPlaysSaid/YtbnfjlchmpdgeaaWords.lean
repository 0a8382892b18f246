/-
  A slice of words that came in, opened to its cells. No condition.
-/
import Derived.Test.YtbnfjlchmpdgeaaPlays
import Derived.Deep.Slices
import Derived.Deep.Fields
import Derived.ChangeSame
import Derived.ChangeArms
import Derived.OpenShut
namespace Go.Proofs.Ytbnfjlchmpdgeaa
set_option linter.unusedVariables false
open Go.ChangeShapes Go.WideShapes Go.RowKit Go.Deep

theorem cells_int : Try.prog.cellsOf 3 = 1 := by kernel_rfl
theorem cells_word : Try.prog.cellsOf 32 = 3 := by kernel_rfl
/-- Three cells that read as a word are three numbers. -/
theorem open_word {H : Type} {enc : TypeId × Value → H} {w : World} {base : Nat} {spare : Nat → Bool} {held : Bool} {n : Nat} {a : Addr} {cs : List Value} {x : DataW H × List MemPlace}
    (hc : w.cells? base a 3 = some cs) (h : DataW.trod enc Try.prog w base spare held n 32 cs = some x) :
    ∃ u v t : Int, w.cell? a = some (.int .i64 u) ∧ w.cell? (a.add 1) = some (.int .i64 v) ∧ w.cell? (a.add 2) = some (.int .i64 t) ∧ (Lit.int .i64 v).wf = true := by
  obtain ⟨_, hl, hat⟩ := World.cells?_some hc
  obtain ⟨ys, m, _, _, _, hys, hf⟩ := DataW.trod_struct Try.underlying32 h
  have h0 := hat 0 (by omega)
  have h1 := hat 1 (by omega)
  have h2 := hat 2 (by omega)
  have ha0 : a.add 0 = a := by unfold Addr.add; simp
  rw [ha0] at h0
  match cs, hl, ys, hys with
  | [c0, c1, c2], _, [y0, y1, y2], _ =>
    have e0 : DataW.trod enc Try.prog w base spare held m 3 (([c0, c1, c2] : List Value).take (Try.prog.cellsOf 3)) = some y0 := hf 0 _ rfl
    have e1 : DataW.trod enc Try.prog w base spare held m 3 (([c1, c2] : List Value).take (Try.prog.cellsOf 3)) = some y1 := hf 1 _ rfl
    have e2 : DataW.trod enc Try.prog w base spare held m 3 (([c2] : List Value).take (Try.prog.cellsOf 3)) = some y2 := hf 2 _ rfl
    rw [cells_int] at e0 e1 e2
    obtain ⟨u, hu, _, _⟩ := DataW.trod_int Try.underlying3 e0
    obtain ⟨v, hv, _, wv⟩ := DataW.trod_int Try.underlying3 e1
    obtain ⟨t, ht, _, _⟩ := DataW.trod_int Try.underlying3 e2
    have u' : c0 = .int .i64 u := by simpa using hu
    have v' : c1 = .int .i64 v := by simpa using hv
    have t' : c2 = .int .i64 t := by simpa using ht
    subst u' v' t'
    exact ⟨u, v, t, h0, h1, h2, wv⟩

/-- The slice. -/
theorem open_words {H : Type} {enc : TypeId × Value → H} {w : World} {spare : Nat → Bool} {held : Bool} {A : Option Addr} {n c : Nat} {d : DataW H} {p : List MemPlace}
    (h : DataW.Trod enc Try.prog w 0 spare held 22 (.slice A n c) d p) : n ≤ c ∧ c ≤ maxLen ∧ Row w A n := by
  obtain ⟨fuel, hf⟩ := h
  rcases open_slice Try.underlying22 hf with ⟨hcs, _⟩ | ⟨a, len, cap, m, q, D, Pl, hcs, _, hl, hm, hmm, _, hi⟩
  · simp [Value.cells] at hcs
    obtain ⟨rfl, rfl, rfl⟩ := hcs
    exact ⟨Nat.le_refl _, Nat.zero_le _, fun h => absurd h (Nat.lt_irrefl _)⟩
  · simp [Value.cells] at hcs
    obtain ⟨rfl, rfl, rfl⟩ := hcs
    refine ⟨hl, hm, fun hn => ?_⟩
    have hnm : n ≤ m := by rw [hmm]; split <;> omega
    rw [cells_word] at hi
    obtain ⟨b, off, spot⟩ := a
    obtain ⟨cs0, hc0, ht0⟩ := hi 0 (by omega)
    obtain ⟨_, _, _, k0, _⟩ := open_word hc0 ht0
    have hspot : spot = none := by simpa [Addr.add] using World.cell?_spot k0
    subst hspot
    refine ⟨b, off, rfl, World.block_lt_of_cell? w _ (by simpa [Addr.add] using k0), fun i hi' => ?_⟩
    obtain ⟨cs, hc, ht⟩ := hi i (by omega)
    obtain ⟨x, y, z, k0, k1, k2, wy⟩ := open_word hc ht
    rw [Go.Deep.add_add, Addr.add_lit] at k1 k2
    rw [Addr.add_lit] at k0
    exact ⟨x, y, z, ⟨k0, k1, k2⟩, wf_le wy⟩
end Go.Proofs.Ytbnfjlchmpdgeaa
