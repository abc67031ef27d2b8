/- Blocks and chains, as the program and as the reference compute them. -/
import Derived.Test.YtfhmkdempebmbaaUB
import Derived.Test.YtfhmkdempebmbaaUL
import Derived.Test.YtfhmkdempebmbaaPAudx4
import Derived.Test.YtfhmkdempebmbaaPAudx5
import Derived.Test.YtfhmkdempebmbaaPAudx1
import Derived.Test.YtfhmkdempebmbaaPAudx2
namespace Go.Proofs.Ytfhmkdempebmbaa.U
open Go.RowKit Go.Proofs.YtfhmkdempebmbaaW.PrintWords Go.Proofs.Ytfhmkdempebmbaa.PAud

def rowB : List ByteArray → ByteArray
  | [] => ⟨#[]⟩
  | s :: l => (strOfNums [(s.size : Int) % 256] ++ s) ++ rowB l
def blockBytes (b : S47) : ByteArray := (b.f0 ++ b.f1) ++ rowB b.f2
def shortB (s : ByteArray) : Bool := decide (s.size ≤ 60)
def goodB (b : S47) : Bool := decide (b.f0.size = 4) && (decide (b.f1.size = 4) && (decide (b.f2.length ≤ 6) && b.f2.all shortB))
def allGood (l : List S47) : Bool := decide (l.length ≤ 12) && l.all goodB
def bdig (b : S47) : ByteArray := digest 104 (blockBytes b)
theorem ba_append_empty (a : ByteArray) : a ++ (⟨#[]⟩ : ByteArray) = a := ByteArray.append_empty
theorem goodB_iff (b : S47) : goodB b = true ↔ b.f0.size = 4 ∧ b.f1.size = 4 ∧ b.f2.length ≤ 6 ∧ ∀ s ∈ b.f2, s.size ≤ 60 := by
  simp [goodB, shortB, List.all_eq_true]
theorem rowB_size (l : List ByteArray) (h : ∀ s ∈ l, s.size ≤ 60) : (rowB l).size ≤ 61 * l.length := by
  induction l with
  | nil => simp [rowB]; decide
  | cons s l ih =>
    have := ih (fun x hx => h x (List.mem_cons_of_mem _ hx))
    have := h s (List.mem_cons_self)
    simp only [rowB, ByteArray.size_append, size_str, List.length_cons, List.length_nil]
    omega
theorem blockBytes_size {b : S47} (h : goodB b = true) : (blockBytes b).size ≤ 374 := by
  obtain ⟨h0, h1, h2, h3⟩ := (goodB_iff b).1 h
  have := rowB_size b.f2 h3
  simp only [blockBytes, ByteArray.size_append]
  omega

theorem impl_isDig (a : ByteArray) : impl_isDigest.f a = some (decide (a.size = 4)) := by
  unfold impl_isDigest.f
  by_cases h : a.size = 4
  · rw [h]; rfl
  · have h' : ¬ ((a.size : Int) = 4) := by omega
    simp [h, h']
theorem impl_contains (l : List ByteArray) (hn : l.length ≤ 4611686018427387904) : Ev (fun k => slices_ContainsFunc_string_string_49.f k l) (!(l.all shortB)) := by
  obtain ⟨r, hr, e⟩ := findLoop l ByteArray.empty (by omega) (fun k i => slices_IndexFunc_string_string_49.l0 k l (l.length : Int) i) (fun _ x => impl_GoodBlock_1.f x) (fun x => !(shortB x))
    (fun x _ => Ev_of fun _ => by simp only [impl_GoodBlock_1.f, shortB]; by_cases h : x.size ≤ 60 <;> simp [h] <;> omega)
    (fun k i => by rw [slices_IndexFunc_string_string_49.l0]; rfl) l.length 0 (by omega) (by omega)
  unfold slices_ContainsFunc_string_string_49.f slices_IndexFunc_string_string_49.f
  refine Ev.bind hr ?_
  rw [e]
  refine Ev_cast (Ev.now _) ?_
  exact any_not shortB l
theorem impl_good (b : S47) (hn : b.f2.length ≤ 4611686018427387904) : Ev (fun k => impl_GoodBlock.f k b.f0 b.f1 b.f2) (goodB b) := by
  unfold impl_GoodBlock.f goodB
  simp only [impl_isDig, Option.bind_some, decide_eq_true_eq]
  refine Ev_ite (fun h0 => ?_) (fun h0 => by simpa [h0] using Ev.now false)
  refine Ev_ite (fun h1 => ?_) (fun h1 => by simpa [h0, h1] using Ev.now false)
  refine Ev_ite (fun h2 => ?_) (fun h2 => ?_)
  · refine Ev.bind (impl_contains b.f2 hn) (Ev_cast (Ev.now _) ?_)
    have h2' : b.f2.length ≤ 6 := by omega
    simp [h0, h1, h2']
  · have h2' : ¬ b.f2.length ≤ 6 := by omega
    simpa [h0, h1, h2'] using Ev.now false
theorem impl_blocks (l : List S47) (hn : l.length ≤ 4611686018427387904) (hi : ∀ b ∈ l, b.f2.length ≤ 4611686018427387904) : Ev (fun k => impl_areBlocks.f k l) (allGood l) := by
  obtain ⟨r, hr, e⟩ := findLoop l z47 (by omega) (fun k i => impl_Block_35_75.l0 k l (l.length : Int) i) (fun k x => impl_areBlocks_1.f k x.f0 x.f1 x.f2) (fun x => !(goodB x))
    (fun x hx => by unfold impl_areBlocks_1.f; exact Ev.bind (impl_good x (hi x hx)) (Ev.now _))
    (fun k i => by rw [impl_Block_35_75.l0]; rfl) l.length 0 (by omega) (by omega)
  unfold impl_areBlocks.f allGood
  refine Ev_ite (fun h0 => ?_) (fun h0 => ?_)
  · unfold impl_Block_35_72.f impl_Block_35_75.f
    refine Ev.bind (Ev.bind hr (Ev.now _)) (Ev_cast (Ev.now _) ?_)
    have h0' : l.length ≤ 12 := by omega
    rw [e, show ((l.drop (0 : Int).toNat).any fun x => !goodB x) = !l.all goodB from any_not goodB l]
    simp [h0']
  · have h0' : ¬ l.length ≤ 12 := by omega
    simpa [h0'] using Ev.now false
theorem impl_bytes_l0 (l : List ByteArray) (hl : l.length ≤ 6) (hs : ∀ s ∈ l, s.size ≤ 60) : ∀ (d : Nat) (i : Int) (acc : ByteArray), 0 ≤ i → (l.length : Int) - i = d → acc.size + 61 * d ≤ 1000 →
    Ev (fun k => impl_Block_bytes.l0 k acc l (l.length : Int) i) (acc ++ rowB (l.drop i.toNat)) := by
  intro d
  induction d with
  | zero =>
    intro i acc h0 hd _
    refine Ev.step (f := fun _ => some acc) (fun k => by rw [impl_Block_bytes.l0, if_neg (by omega)]) ?_
    rw [drop_nil l (by omega)]
    exact Ev_cast (Ev.now _) (ba_append_empty acc).symm
  | succ d ih =>
    intro i acc h0 hd ha
    have hx : (rdOf ByteArray.empty l i).size ≤ 60 := hs _ (getD_mem l ByteArray.empty h0 (by omega))
    refine Ev.step (f := fun k => impl_Block_bytes.l0 k (acc ++ (strOfNums [((rdOf ByteArray.empty l i).size : Int) % 256] ++ rdOf ByteArray.empty l i)) l (l.length : Int) (i + 1)) (fun k => ?_) ?_
    · rw [impl_Block_bytes.l0, if_pos (by omega), if_pos h0, if_pos (by omega)]
      simp only [impl_oneByte.f, Option.bind_some]
      rw [if_pos (by simp only [size_str, List.length_cons, List.length_nil]; omega), if_pos (by simp only [ByteArray.size_append, size_str, List.length_cons, List.length_nil]; omega), w64 (n := i + 1) (by omega) (by omega)]
    · rw [drop_getD l ByteArray.empty h0 (by omega)]
      refine Ev_cast (ih (i + 1) _ (by omega) (by omega) (by simp only [ByteArray.size_append, size_str, List.length_cons, List.length_nil]; omega)) ?_
      exact ByteArray.append_assoc
theorem impl_bytes {b : S47} (h : goodB b = true) : Ev (fun k => impl_Block_bytes.f k b.f0 b.f1 b.f2) (blockBytes b) := by
  obtain ⟨h0, h1, h2, h3⟩ := (goodB_iff b).1 h
  unfold impl_Block_bytes.f
  refine Ev_pos (by omega) ?_
  exact impl_bytes_l0 b.f2 h2 h3 b.f2.length 0 _ (by omega) (by omega) (by simp only [ByteArray.size_append]; omega)
theorem impl_bdig {b : S47} (h : goodB b = true) : Ev (fun k => impl_Block_digest.f k b.f0 b.f1 b.f2) (bdig b) := by
  have := blockBytes_size h
  unfold impl_Block_digest.f
  refine Ev.bind (impl_bytes h) (Ev.bind (impl_dig 104 (blockBytes b) (by omega) (by omega) (by omega)) (Ev.now _))
theorem spec_row_l0 (l : List ByteArray) (hl : l.length ≤ 6) (hs : ∀ s ∈ l, s.size ≤ 60) : ∀ (d : Nat) (i : Int) (acc : ByteArray), 0 ≤ i → (l.length : Int) - i = d → acc.size + 61 * d ≤ 1000 →
    Ev (fun k => spec_l1Row.l0 k acc l (l.length : Int) i) (acc ++ rowB (l.drop i.toNat)) := by
  intro d
  induction d with
  | zero =>
    intro i acc h0 hd _
    refine Ev.step (f := fun _ => some acc) (fun k => by rw [spec_l1Row.l0, if_neg (by omega)]) ?_
    rw [drop_nil l (by omega)]
    exact Ev_cast (Ev.now _) (ba_append_empty acc).symm
  | succ d ih =>
    intro i acc h0 hd ha
    have hx : (rdOf ByteArray.empty l i).size ≤ 60 := hs _ (getD_mem l ByteArray.empty h0 (by omega))
    refine Ev.step (f := fun k => spec_l1Row.l0 k (acc ++ (strOfNums [((rdOf ByteArray.empty l i).size : Int) % 256] ++ rdOf ByteArray.empty l i)) l (l.length : Int) (i + 1)) (fun k => ?_) ?_
    · rw [spec_l1Row.l0, if_pos (by omega), if_pos h0, if_pos (by omega)]
      simp only [Option.bind_some]
      rw [if_pos (by simp only [size_str, List.length_cons, List.length_nil]; omega), if_pos (by simp only [ByteArray.size_append, size_str, List.length_cons, List.length_nil]; omega), w64 (n := i + 1) (by omega) (by omega)]
    · rw [drop_getD l ByteArray.empty h0 (by omega)]
      refine Ev_cast (ih (i + 1) _ (by omega) (by omega) (by simp only [ByteArray.size_append, size_str, List.length_cons, List.length_nil]; omega)) ?_
      exact ByteArray.append_assoc
theorem ba_empty_append (a : ByteArray) : (⟨#[]⟩ : ByteArray) ++ a = a := ByteArray.empty_append
theorem spec_bytes {b : S47} (h : goodB b = true) : Ev (fun k => spec_l16Bytes.f k b.f0 b.f1 b.f2) (blockBytes b) := by
  obtain ⟨h0, h1, h2, h3⟩ := (goodB_iff b).1 h
  have hz := rowB_size b.f2 h3
  unfold spec_l16Bytes.f
  refine Ev_pos (by omega) ?_
  unfold spec_l1Row.f
  refine Ev.bind (spec_row_l0 b.f2 h2 h3 b.f2.length 0 _ (by omega) (by omega) (by show 0 + _ ≤ _; omega)) ?_
  refine Ev_pos ?_ (Ev_cast (Ev.now _) ?_)
  · rw [ba_empty_append]
    simp only [ByteArray.size_append]
    show _ + (rowB b.f2).size ≤ _
    omega
  · rw [ba_empty_append]; rfl
theorem spec_bdig {b : S47} (h : goodB b = true) : Ev (fun k => spec_l16Digest.f k b.f0 b.f1 b.f2) (bdig b) := by
  have := blockBytes_size h
  unfold spec_l16Digest.f
  refine Ev.bind (spec_bytes h) (Ev.bind (spec_dig 104 (blockBytes b) (by omega) (by omega) (by omega)) (Ev.now _))
theorem spec_good (b : S47) (hn : b.f2.length ≤ 4611686018427387904) : Ev (fun k => spec_GoodBlock.f k b.f0 b.f1 b.f2) (goodB b) := by
  have h := allLoop b.f2 ByteArray.empty (by omega) (fun k i => spec_GoodBlock.l0 k b.f2 (b.f2.length : Int) i b.f0 b.f1 b.f2) (fun _ x => some (shortB x)) shortB false (decide (b.f0.size = 4) && (decide (b.f1.size = 4) && decide (b.f2.length ≤ 6)))
    (fun x _ => Ev.now _) (fun k i => by
      rw [spec_GoodBlock.l0]
      have e1 : (if (b.f0.size : Int) = 4 then (if (b.f1.size : Int) = 4 then some (decide ((b.f2.length : Int) ≤ 6)) else some false) else some false) = some (decide (b.f0.size = 4) && (decide (b.f1.size = 4) && decide (b.f2.length ≤ 6))) := by
        have a0 : ((b.f0.size : Int) = 4) ↔ b.f0.size = 4 := by omega
        have a1 : ((b.f1.size : Int) = 4) ↔ b.f1.size = 4 := by omega
        have a2 : ((b.f2.length : Int) ≤ 6) ↔ b.f2.length ≤ 6 := by omega
        simp only [a0, a1, a2]
        by_cases h0 : b.f0.size = 4 <;> by_cases h1 : b.f1.size = 4 <;> simp [h0, h1]
      rw [e1]
      have e2 : ∀ x : ByteArray, (if (x.size : Int) > 60 then some false else spec_GoodBlock.l0 k b.f2 (b.f2.length : Int) (wrap64 (i + 1)) b.f0 b.f1 b.f2) = (some (shortB x)).bind fun t => if t = true then spec_GoodBlock.l0 k b.f2 (b.f2.length : Int) (wrap64 (i + 1)) b.f0 b.f1 b.f2 else some false := by
        intro x
        by_cases hx : x.size ≤ 60
        · rw [if_neg (by omega)]; simp [shortB, hx]
        · rw [if_pos (by omega)]; simp [shortB, hx]
      rw [e2]; rfl) b.f2.length 0 (by omega) (by omega)
  unfold spec_GoodBlock.f
  refine Ev_cast h ?_
  unfold goodB
  cases h1 : (b.f2.all shortB) <;> simp [h1]
theorem spec_all (l : List S47) (hn : l.length ≤ 4611686018427387904) (hi : ∀ b ∈ l, b.f2.length ≤ 4611686018427387904) : Ev (fun k => spec_l16All.f k l) (allGood l) := by
  have h := allLoop l z47 (by omega) (fun k i => spec_l16All.l0 k l l (l.length : Int) i) (fun k x => spec_GoodBlock.f k x.f0 x.f1 x.f2) goodB false (decide ((l.length : Int) ≤ 12))
    (fun x hx => spec_good x (hi x hx)) (fun k i => by rw [spec_l16All.l0]; rfl) l.length 0 (by omega) (by omega)
  unfold spec_l16All.f
  refine Ev_cast h ?_
  unfold allGood
  have a2 : ((l.length : Int) ≤ 12) ↔ l.length ≤ 12 := by omega
  cases h1 : (l.all goodB) <;> simp [h1, a2]
end Go.Proofs.Ytfhmkdempebmbaa.U
