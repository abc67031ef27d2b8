/- Chains of blocks, as the program and as the reference compute them. -/
import Derived.Test.YtfhmkdempebmbaaUD
import Derived.Test.YtfhmkdempebmbaaPAudx6
import Derived.Test.YtfhmkdempebmbaaPAudx7
import Derived.Test.YtfhmkdempebmbaaPAudx2
import Derived.Test.YtfhmkdempebmbaaPAudx4
import Derived.Test.YtfhmkdempebmbaaPAudx3
namespace Go.Proofs.Ytfhmkdempebmbaa.U
open Go.RowKit Go.Proofs.YtfhmkdempebmbaaW.PrintWords Go.Proofs.Ytfhmkdempebmbaa.PAud

def zero4 : ByteArray := ⟨#[0, 0, 0, 0]⟩
def lastD (l : List S47) : ByteArray := match l.getLast? with
  | none => zero4
  | some b => bdig b
def linked (prev : ByteArray) : List S47 → Bool
  | [] => true
  | b :: l => decide (b.f0 = prev) && linked (bdig b) l
def goodC (l : List S47) : Bool := allGood l && linked zero4 l
theorem lastD_snoc (l : List S47) (b : S47) : lastD (l ++ [b]) = bdig b := by simp [lastD]
theorem allGood_iff (l : List S47) : allGood l = true ↔ l.length ≤ 12 ∧ ∀ b ∈ l, goodB b = true := by simp [allGood, List.all_eq_true]
theorem allGood_len {l : List S47} (h : allGood l = true) : l.length ≤ 12 := ((allGood_iff l).1 h).1
theorem allGood_mem {l : List S47} (h : allGood l = true) {b : S47} (hb : b ∈ l) : goodB b = true := ((allGood_iff l).1 h).2 b hb
theorem good_items {b : S47} (h : goodB b = true) : b.f2.length ≤ 6 := ((goodB_iff b).1 h).2.2.1
theorem take_mem {α : Type} {l : List α} {n : Nat} {x : α} (h : x ∈ l.take n) : x ∈ l := List.mem_of_mem_take h
theorem goodC_all {l : List S47} (h : goodC l = true) : allGood l = true := by unfold goodC at h; simp at h; exact h.1
theorem impl_last (l : List S47) (hg : ∀ b ∈ l, goodB b = true) (hn : l.length ≤ 100) : Ev (fun k => impl_lastDigest.f k l) (lastD l) := by
  unfold impl_lastDigest.f
  rcases List.eq_nil_or_concat l with rfl | ⟨l', b, rfl⟩
  · exact Ev_pos rfl (Ev.now _)
  · rw [List.concat_eq_append] at *
    have hl : ((l' ++ [b]).length : Int) - 1 = (l'.length : Int) := by simp
    simp only [List.length_append, List.length_cons, List.length_nil] at hn
    rw [hl, w64 (n := (l'.length : Int)) (by omega) (by omega)]
    refine Ev_neg (by simp; omega) (Ev_pos (by omega) (Ev_pos (by simp; omega) ?_))
    have e : rd_T47 (l' ++ [b]) (l'.length : Int) = b := by simp [rd_T47, List.getD_eq_getElem?_getD]
    rw [e, lastD_snoc]
    exact Ev.bind (impl_bdig (hg b (by simp))) (Ev.now _)
theorem impl_link (l : List S47) (hg : ∀ b ∈ l, goodB b = true) (hn : l.length ≤ 100) : ∀ (d : Nat) (i : Int), 0 ≤ i → (l.length : Int) - i = d →
    Ev (fun k => impl_GoodChain.l0 k l l (l.length : Int) i) (linked (lastD (l.take i.toNat)) (l.drop i.toNat)) := by
  intro d
  induction d with
  | zero =>
    intro i h0 hd
    refine Ev.step (f := fun _ => some true) (fun k => by rw [impl_GoodChain.l0, if_neg (by omega)]) ?_
    rw [drop_nil l (by omega)]
    exact Ev.now _
  | succ d ih =>
    intro i h0 hd
    refine Ev.step (f := fun k => (impl_lastDigest.f k (l.take i.toNat)).bind fun t => (if ((rd_T47 l i).f0).toList = t.toList then impl_GoodChain.l0 k l l (l.length : Int) (i + 1) else some false)) (fun k => by rw [impl_GoodChain.l0, if_pos (by omega), if_pos h0, if_pos (by omega), if_pos (by omega), w64 (n := i + 1) (by omega) (by omega)]) ?_
    refine Ev.bind (impl_last _ (fun b hb => hg b (take_mem hb)) (by simp only [List.length_take]; omega)) ?_
    rw [drop_getD l z47 h0 (by omega), linked]
    have hx : goodB (l.getD i.toNat z47) = true := hg _ (getD_mem l z47 h0 (by omega))
    have ih' := ih (i + 1) (by omega) (by omega)
    rw [take_snoc l z47 h0 (by omega), lastD_snoc] at ih'
    refine Ev_ite (fun h => ?_) (fun h => ?_)
    · rw [str_inj] at h
      rw [show decide ((l.getD i.toNat z47).f0 = lastD (l.take i.toNat)) = true from decide_eq_true h, Bool.true_and]
      exact ih'
    · rw [str_inj] at h
      rw [show decide ((l.getD i.toNat z47).f0 = lastD (l.take i.toNat)) = false from decide_eq_false h, Bool.false_and]
      exact Ev.now _
theorem impl_chain (l : List S47) (hn : l.length ≤ 100) (hi : ∀ b ∈ l, b.f2.length ≤ 4611686018427387904) : Ev (fun k => impl_GoodChain.f k l) (goodC l) := by
  unfold impl_GoodChain.f goodC
  refine Ev.bind (impl_blocks l (by omega) hi) ?_
  cases h : allGood l with
  | false => exact Ev_neg (by decide) (Ev.now _)
  | true =>
    refine Ev_pos rfl ?_
    exact Ev_cast (impl_link l (fun b hb => allGood_mem h hb) hn l.length 0 (by omega) (by omega)) (by simp [lastD])
theorem impl_lastDig (l : List S47) (hn : l.length ≤ 100) (hi : ∀ b ∈ l, b.f2.length ≤ 4611686018427387904) : Ev (fun k => impl_LastDigest.f k l) (if goodC l = true then (lastD l, true) else (⟨#[]⟩, false)) := by
  unfold impl_LastDigest.f
  refine Ev.bind (impl_chain l hn hi) ?_
  refine Ev_ite (fun h => ?_) (fun h => ?_)
  · rw [if_pos h]
    exact Ev.bind (impl_last l (fun b hb => allGood_mem (goodC_all h) hb) hn) (Ev.now _)
  · rw [if_neg h]; exact Ev.now _
theorem spec_last (l : List S47) (hg : ∀ b ∈ l, goodB b = true) (hn : l.length ≤ 100) : Ev (fun k => spec_l16Last.f k l) (lastD l) := by
  unfold spec_l16Last.f
  rcases List.eq_nil_or_concat l with rfl | ⟨l', b, rfl⟩
  · exact Ev_pos rfl (Ev.now _)
  · rw [List.concat_eq_append] at *
    have hl : ((l' ++ [b]).length : Int) - 1 = (l'.length : Int) := by simp
    simp only [List.length_append, List.length_cons, List.length_nil] at hn
    rw [hl, w64 (n := (l'.length : Int)) (by omega) (by omega)]
    refine Ev_neg (by simp; omega) (Ev_pos (by omega) (Ev_pos (by simp; omega) ?_))
    have e : rd_T47 (l' ++ [b]) (l'.length : Int) = b := by simp [rd_T47, List.getD_eq_getElem?_getD]
    rw [e, lastD_snoc]
    exact Ev.bind (spec_bdig (hg b (by simp))) (Ev.now _)
theorem spec_link (l : List S47) (hg : ∀ b ∈ l, goodB b = true) (hn : l.length ≤ 100) : ∀ (d : Nat) (i : Int), 0 ≤ i → (l.length : Int) - i = d →
    Ev (fun k => spec_GoodChain.l0 k l l (l.length : Int) i) (linked (lastD (l.take i.toNat)) (l.drop i.toNat)) := by
  intro d
  induction d with
  | zero =>
    intro i h0 hd
    refine Ev.step (f := fun _ => some true) (fun k => by rw [spec_GoodChain.l0, if_neg (by omega)]) ?_
    rw [drop_nil l (by omega)]
    exact Ev.now _
  | succ d ih =>
    intro i h0 hd
    refine Ev.step (f := fun k => (spec_l16Last.f k (l.take i.toNat)).bind fun t => (if ((rd_T47 l i).f0).toList = t.toList then spec_GoodChain.l0 k l l (l.length : Int) (i + 1) else some false)) (fun k => by rw [spec_GoodChain.l0, if_pos (by omega), if_pos h0, if_pos (by omega), if_pos (by omega), w64 (n := i + 1) (by omega) (by omega)]) ?_
    refine Ev.bind (spec_last _ (fun b hb => hg b (take_mem hb)) (by simp only [List.length_take]; omega)) ?_
    rw [drop_getD l z47 h0 (by omega), linked]
    have hx : goodB (l.getD i.toNat z47) = true := hg _ (getD_mem l z47 h0 (by omega))
    have ih' := ih (i + 1) (by omega) (by omega)
    rw [take_snoc l z47 h0 (by omega), lastD_snoc] at ih'
    refine Ev_ite (fun h => ?_) (fun h => ?_)
    · rw [str_inj] at h
      rw [show decide ((l.getD i.toNat z47).f0 = lastD (l.take i.toNat)) = true from decide_eq_true h, Bool.true_and]
      exact ih'
    · rw [str_inj] at h
      rw [show decide ((l.getD i.toNat z47).f0 = lastD (l.take i.toNat)) = false from decide_eq_false h, Bool.false_and]
      exact Ev.now _
theorem spec_chain (l : List S47) (hn : l.length ≤ 100) (hi : ∀ b ∈ l, b.f2.length ≤ 4611686018427387904) : Ev (fun k => spec_GoodChain.f k l) (goodC l) := by
  unfold spec_GoodChain.f goodC
  refine Ev.bind (spec_all l (by omega) hi) ?_
  cases h : allGood l with
  | false => exact Ev_neg (by decide) (Ev.now _)
  | true =>
    refine Ev_pos rfl ?_
    exact Ev_cast (spec_link l (fun b hb => allGood_mem h hb) hn l.length 0 (by omega) (by omega)) (by simp [lastD])
theorem spec_lastDig (l : List S47) (hn : l.length ≤ 100) (hi : ∀ b ∈ l, b.f2.length ≤ 4611686018427387904) : Ev (fun k => spec_LastDigest.f k l) (if goodC l = true then (lastD l, true) else (⟨#[]⟩, false)) := by
  unfold spec_LastDigest.f
  refine Ev.bind (spec_chain l hn hi) ?_
  refine Ev_ite (fun h => ?_) (fun h => ?_)
  · rw [if_pos h]
    exact Ev.bind (spec_last l (fun b hb => allGood_mem (goodC_all h) hb) hn) (Ev.now _)
  · rw [if_neg h]; exact Ev.now _
end Go.Proofs.Ytfhmkdempebmbaa.U
