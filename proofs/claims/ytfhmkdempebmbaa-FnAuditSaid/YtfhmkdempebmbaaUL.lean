/- Plain lemmas on loops: a loop that goes through a list. -/
import Derived.Test.YtfhmkdempebmbaaUA
namespace Go.Proofs.Ytfhmkdempebmbaa.U
open Go.RowKit Go.Proofs.YtfhmkdempebmbaaW.PrintWords

theorem drop_getD {α : Type} (xs : List α) (z : α) {i : Int} (h0 : 0 ≤ i) (h1 : i < (xs.length : Int)) : xs.drop i.toNat = xs.getD i.toNat z :: xs.drop (i + 1).toNat := by
  have hlt : i.toNat < xs.length := by omega
  rw [show (i + 1).toNat = i.toNat + 1 by omega, List.drop_eq_getElem_cons hlt, List.getD_eq_getElem?_getD, List.getElem?_eq_getElem hlt]
  rfl
theorem getD_mem {α : Type} (xs : List α) (z : α) {i : Int} (h0 : 0 ≤ i) (h1 : i < (xs.length : Int)) : xs.getD i.toNat z ∈ xs := by
  have hlt : i.toNat < xs.length := by omega
  rw [List.getD_eq_getElem?_getD, List.getElem?_eq_getElem hlt]
  exact List.getElem_mem hlt
theorem drop_nil {α : Type} (xs : List α) {i : Int} (h : (xs.length : Int) ≤ i) : xs.drop i.toNat = [] := List.drop_of_length_le (by omega)
theorem take_snoc {α : Type} (xs : List α) (z : α) {i : Int} (h0 : 0 ≤ i) (h1 : i < (xs.length : Int)) : xs.take (i + 1).toNat = xs.take i.toNat ++ [xs.getD i.toNat z] := by
  have hlt : i.toNat < xs.length := by omega
  rw [show (i + 1).toNat = i.toNat + 1 by omega, List.take_add_one, List.getD_eq_getElem?_getD, List.getElem?_eq_getElem hlt]
  rfl
theorem any_not {α : Type} (p : α → Bool) (l : List α) : (l.any fun x => !p x) = !l.all p := by
  induction l with
  | nil => rfl
  | cons x l ih => rw [List.any_cons, List.all_cons, ih, Bool.not_and]
/-- A loop that ends at the first element that is not such. -/
theorem allLoop {α β : Type} (xs : List α) (z : α) (hn : (xs.length : Int) ≤ 4611686018427387904) (l : Nat → Int → Option β) (q : Nat → α → Option Bool) (p : α → Bool) (no yes : β)
    (hq : ∀ x ∈ xs, Ev (fun k => q k x) (p x))
    (step : ∀ k i, l (k + 1) i = if i < (xs.length : Int) then (if 0 ≤ i then (if i < (xs.length : Int) then ((q k (xs.getD i.toNat z)).bind fun t => if t = true then l k (wrap64 (i + 1)) else some no) else none) else none) else some yes) :
    ∀ (d : Nat) (i : Int), 0 ≤ i → (xs.length : Int) - i = d → Ev (fun k => l k i) (if (xs.drop i.toNat).all p = true then yes else no) := by
  intro d
  induction d with
  | zero =>
    intro i h0 hd
    refine Ev.step (f := fun _ => some yes) (fun k => by rw [step, if_neg (by omega)]) ?_
    rw [drop_nil xs (by omega)]
    exact Ev.now _
  | succ d ih =>
    intro i h0 hd
    refine Ev.step (f := fun k => ((q k (xs.getD i.toNat z)).bind fun t => if t = true then l k (i + 1) else some no)) (fun k => by rw [step, if_pos (by omega), if_pos h0, if_pos (by omega), w64 (n := i + 1) (by omega) (by omega)]) ?_
    refine Ev.bind (hq _ (getD_mem xs z h0 (by omega))) ?_
    rw [drop_getD xs z h0 (by omega), List.all_cons]
    cases hp : p (xs.getD i.toNat z) with
    | true => exact Ev.congr (fun k => if_pos rfl) (by simpa using ih (i + 1) (by omega) (by omega))
    | false => exact Ev.congr (fun k => if_neg (by decide)) (Ev.now _)
/-- A loop that ends with the first element that is such: with its place, or with -1. -/
theorem findLoop {α : Type} (xs : List α) (z : α) (hn : (xs.length : Int) ≤ 4611686018427387904) (l : Nat → Int → Option Int) (q : Nat → α → Option Bool) (p : α → Bool)
    (hq : ∀ x ∈ xs, Ev (fun k => q k x) (p x))
    (step : ∀ k i, l (k + 1) i = if i < (xs.length : Int) then (if 0 ≤ i then (if i < (xs.length : Int) then ((q k (xs.getD i.toNat z)).bind fun t => if t = true then some i else l k (wrap64 (i + 1))) else none) else none) else some (-1)) :
    ∀ (d : Nat) (i : Int), 0 ≤ i → (xs.length : Int) - i = d → ∃ r, Ev (fun k => l k i) r ∧ decide (r ≥ 0) = (xs.drop i.toNat).any p := by
  intro d
  induction d with
  | zero =>
    intro i h0 hd
    refine ⟨-1, Ev.step (f := fun _ => some (-1)) (fun k => by rw [step, if_neg (by omega)]) (Ev.now _), ?_⟩
    rw [drop_nil xs (by omega)]
    rfl
  | succ d ih =>
    intro i h0 hd
    obtain ⟨r, hr, e⟩ := ih (i + 1) (by omega) (by omega)
    rw [drop_getD xs z h0 (by omega), List.any_cons]
    cases hp : p (xs.getD i.toNat z) with
    | true =>
      refine ⟨i, Ev.step (f := fun k => ((q k (xs.getD i.toNat z)).bind fun t => if t = true then some i else l k (i + 1))) (fun k => by rw [step, if_pos (by omega), if_pos h0, if_pos (by omega), w64 (n := i + 1) (by omega) (by omega)]) ?_, by simpa using h0⟩
      refine Ev.bind (hq _ (getD_mem xs z h0 (by omega))) ?_
      rw [hp]
      exact Ev.congr (fun k => if_pos rfl) (Ev.now _)
    | false =>
      refine ⟨r, Ev.step (f := fun k => ((q k (xs.getD i.toNat z)).bind fun t => if t = true then some i else l k (i + 1))) (fun k => by rw [step, if_pos (by omega), if_pos h0, if_pos (by omega), w64 (n := i + 1) (by omega) (by omega)]) ?_, by simpa using e⟩
      refine Ev.bind (hq _ (getD_mem xs z h0 (by omega))) ?_
      rw [hp]
      exact Ev.congr (fun k => if_neg (by decide)) hr
end Go.Proofs.Ytfhmkdempebmbaa.U
