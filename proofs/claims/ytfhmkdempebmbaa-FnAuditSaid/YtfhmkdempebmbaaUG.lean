/- Who holds the last digest finds a chain right just if it is; two chains with one last digest show two unlike blocks with one digest. -/
import Derived.Test.YtfhmkdempebmbaaUF
import Derived.Test.YtfhmkdempebmbaaPAudx6
import Derived.Test.YtfhmkdempebmbaaPAudx8
import Derived.Test.YtfhmkdempebmbaaPAudx9
import Derived.Test.YtfhmkdempebmbaaPAudx10
namespace Go.Proofs.Ytfhmkdempebmbaa.U
open Go.RowKit Go.Proofs.YtfhmkdempebmbaaW.PrintWords Go.Proofs.Ytfhmkdempebmbaa.PAud

theorem zero4_list : zero4.toList = ([0, 0, 0, 0] : List UInt8) := by rw [ByteArray.toList_eq]; rfl
theorem is_zero4 (a : ByteArray) : a.toList = ([0, 0, 0, 0] : List UInt8) ↔ a = zero4 := by rw [← zero4_list]; exact str_inj
def auditR : List S47 → ByteArray → Int
  | [], _ => -1
  | b :: rest, last => if bdig b = last ∧ (rest = [] → b.f0 = zero4) then auditR rest b.f0 else (rest.length : Int)
theorem auditR_neg (rev : List S47) : ∀ last, auditR rev last = -1 ↔ rev = [] ∨ (linked zero4 rev.reverse = true ∧ lastD rev.reverse = last) := by
  induction rev with
  | nil => intro last; simp [auditR]
  | cons b rest ih =>
    intro last
    rw [auditR, List.reverse_cons, linked_lastD, lastD_snoc]
    by_cases h : bdig b = last ∧ (rest = [] → b.f0 = zero4)
    · rw [if_pos h, ih]
      simp only [Bool.and_eq_true, decide_eq_true_eq, reduceCtorEq, false_or, h.1, and_true]
      constructor
      · rintro (rfl | ⟨h1, h2⟩)
        · exact ⟨rfl, h.2 rfl⟩
        · exact ⟨h1, h2.symm⟩
      · rintro ⟨h1, h2⟩
        exact .inr ⟨h1, h2.symm⟩
    · rw [if_neg h]
      simp only [Bool.and_eq_true, decide_eq_true_eq, reduceCtorEq, false_or]
      constructor
      · intro h2; exact h2.elim
      · rintro ⟨⟨h1, h2⟩, h3⟩
        refine absurd ⟨h3, fun h4 => ?_⟩ h
        rw [h2, h4]
        rfl
def impl_at (k : Nat) (last : ByteArray) (l : List S47) (i : Int) : Option (Int × Bool) := impl_AuditChain.l0 k last l i
def spec_at (k : Nat) (last : ByteArray) (l : List S47) (i : Int) : Option (Int × Bool) := spec_AuditChain.l0 k l last i
def impl_dg (k : Nat) (b : S47) : Option ByteArray := impl_Block_digest.f k b.f0 b.f1 b.f2
def spec_dg (k : Nat) (b : S47) : Option ByteArray := spec_l16Digest.f k b.f0 b.f1 b.f2
theorem impl_audit_l0 (l : List S47) (hg : ∀ b ∈ l, goodB b = true) (hn : l.length ≤ 100) : ∀ (m : Nat) (last : ByteArray), m ≤ l.length →
    Ev (fun k => impl_at k last l ((m : Int) - 1)) (auditR (l.take m).reverse last, true) := by
  intro m
  induction m with
  | zero =>
    intro last _
    exact Ev.step (f := fun _ => some (-1, true)) (fun k => by unfold impl_at; rw [impl_AuditChain.l0, if_neg (by omega)]) (Ev.now _)
  | succ m ih =>
    intro last hm
    have e0 : ((m + 1 : Nat) : Int) - 1 = (m : Int) := by omega
    rw [e0]
    have ht : l.take (m + 1) = l.take m ++ [l.getD m z47] := by have := take_snoc l z47 (i := (m : Int)) (by omega) (by omega); simpa using this
    rw [ht, List.reverse_append, List.reverse_singleton, List.singleton_append, auditR]
    have hlen : ((l.take m).reverse.length : Int) = (m : Int) := by simp only [List.length_reverse, List.length_take]; omega
    have hnil : ((l.take m).reverse = []) ↔ m = 0 := by rw [← List.length_eq_zero_iff]; simp only [List.length_reverse, List.length_take]; omega
    have hx : goodB (l.getD m z47) = true := hg _ (getD_mem l z47 (i := (m : Int)) (by omega) (by omega))
    refine Ev.step (f := fun k => (impl_dg k (l.getD m z47)).bind fun t => (if t.toList = last.toList then (if (m : Int) = 0 then (if (l.getD m z47).f0.toList = ([0, 0, 0, 0] : List UInt8) then impl_at k (l.getD m z47).f0 l ((m : Int) - 1) else some ((m : Int), true)) else impl_at k (l.getD m z47).f0 l ((m : Int) - 1)) else some ((m : Int), true))) (fun k => by
      unfold impl_at; rw [impl_AuditChain.l0, if_pos (by omega), if_pos (by omega), if_pos (by omega), w64 (n := (m : Int) - 1) (by omega) (by omega)]; rfl) ?_
    refine Ev.bind (impl_bdig hx) ?_
    simp only [hlen, hnil]
    by_cases h1 : bdig (l.getD m z47) = last
    · refine Ev_pos (str_inj.2 h1) ?_
      by_cases h2 : m = 0
      · refine Ev_pos (by omega) ?_
        by_cases h3 : (l.getD m z47).f0 = zero4
        · refine Ev_pos ((is_zero4 _).2 h3) ?_
          rw [if_pos ⟨h1, fun _ => h3⟩]
          exact ih _ (by omega)
        · refine Ev_neg (fun h => h3 ((is_zero4 _).1 h)) ?_
          rw [if_neg (fun h => h3 (h.2 h2))]
          exact Ev.now _
      · refine Ev_neg (by omega) ?_
        rw [if_pos ⟨h1, fun h => absurd h h2⟩]
        exact ih _ (by omega)
    · refine Ev_neg (fun h => h1 (str_inj.1 h)) ?_
      rw [if_neg (fun h => h1 h.1)]
      exact Ev.now _
theorem impl_audit {last : ByteArray} {l : List S47} (h4 : last.size = 4) (hg : allGood l = true) : Ev (fun k => impl_AuditChain.f k last l) (auditR l.reverse last, true) := by
  have hn := allGood_len hg
  have h := impl_audit_l0 l (fun b hb => allGood_mem hg hb) (by omega) l.length last (Nat.le_refl _)
  rw [List.take_length] at h
  have hb := impl_blocks l (by omega) (fun b hb => by have := good_items (allGood_mem hg hb); omega)
  have hj : Ev (fun k => impl_AuditChain.j0 k last l (!(allGood l))) (auditR l.reverse last, true) := Ev.step (f := fun k => impl_at k last l ((l.length : Int) - 1)) (fun k => by
    rw [impl_AuditChain.j0, hg, if_neg (by decide), w64 (n := (l.length : Int) - 1) (by omega) (by omega)]; rfl) h
  unfold impl_AuditChain.f
  first
    | (simp only [impl_isDig, Option.bind_some, decide_eq_true_eq]
       exact Ev_pos h4 (Ev.bind hb hj))
    | exact Ev_pos (by omega) (Ev.bind hb hj)
theorem spec_audit_l0 (l : List S47) (hg : ∀ b ∈ l, goodB b = true) (hn : l.length ≤ 100) : ∀ (m : Nat) (last : ByteArray), m ≤ l.length →
    Ev (fun k => spec_at k last l ((m : Int) - 1)) (auditR (l.take m).reverse last, true) := by
  intro m
  induction m with
  | zero =>
    intro last _
    exact Ev.step (f := fun _ => some (-1, true)) (fun k => by unfold spec_at; rw [spec_AuditChain.l0, if_neg (by omega)]) (Ev.now _)
  | succ m ih =>
    intro last hm
    have e0 : ((m + 1 : Nat) : Int) - 1 = (m : Int) := by omega
    rw [e0]
    have ht : l.take (m + 1) = l.take m ++ [l.getD m z47] := by have := take_snoc l z47 (i := (m : Int)) (by omega) (by omega); simpa using this
    rw [ht, List.reverse_append, List.reverse_singleton, List.singleton_append, auditR]
    have hlen : ((l.take m).reverse.length : Int) = (m : Int) := by simp only [List.length_reverse, List.length_take]; omega
    have hnil : ((l.take m).reverse = []) ↔ m = 0 := by rw [← List.length_eq_zero_iff]; simp only [List.length_reverse, List.length_take]; omega
    have hx : goodB (l.getD m z47) = true := hg _ (getD_mem l z47 (i := (m : Int)) (by omega) (by omega))
    refine Ev.step (f := fun k => (spec_dg k (l.getD m z47)).bind fun t => (if t.toList = last.toList then (if (m : Int) = 0 then (if (l.getD m z47).f0.toList = ([0, 0, 0, 0] : List UInt8) then spec_at k (l.getD m z47).f0 l ((m : Int) - 1) else some ((m : Int), true)) else spec_at k (l.getD m z47).f0 l ((m : Int) - 1)) else some ((m : Int), true))) (fun k => by
      unfold spec_at; rw [spec_AuditChain.l0, if_pos (by omega), if_pos (by omega), if_pos (by omega), w64 (n := (m : Int) - 1) (by omega) (by omega)]; rfl) ?_
    refine Ev.bind (spec_bdig hx) ?_
    simp only [hlen, hnil]
    by_cases h1 : bdig (l.getD m z47) = last
    · refine Ev_pos (str_inj.2 h1) ?_
      by_cases h2 : m = 0
      · refine Ev_pos (by omega) ?_
        by_cases h3 : (l.getD m z47).f0 = zero4
        · refine Ev_pos ((is_zero4 _).2 h3) ?_
          rw [if_pos ⟨h1, fun _ => h3⟩]
          exact ih _ (by omega)
        · refine Ev_neg (fun h => h3 ((is_zero4 _).1 h)) ?_
          rw [if_neg (fun h => h3 (h.2 h2))]
          exact Ev.now _
      · refine Ev_neg (by omega) ?_
        rw [if_pos ⟨h1, fun h => absurd h h2⟩]
        exact ih _ (by omega)
    · refine Ev_neg (fun h => h1 (str_inj.1 h)) ?_
      rw [if_neg (fun h => h1 h.1)]
      exact Ev.now _
theorem spec_audit {last : ByteArray} {l : List S47} (h4 : last.size = 4) (hg : allGood l = true) : Ev (fun k => spec_AuditChain.f k last l) (auditR l.reverse last, true) := by
  have hn := allGood_len hg
  have h := spec_audit_l0 l (fun b hb => allGood_mem hg hb) (by omega) l.length last (Nat.le_refl _)
  rw [List.take_length] at h
  have hb := spec_all l (by omega) (fun b hb => by have := good_items (allGood_mem hg hb); omega)
  have hj : Ev (fun k => spec_AuditChain.j0 k last l (!(allGood l))) (auditR l.reverse last, true) := Ev.step (f := fun k => spec_at k last l ((l.length : Int) - 1)) (fun k => by
    rw [spec_AuditChain.j0, hg, if_neg (by decide), w64 (n := (l.length : Int) - 1) (by omega) (by omega)]; rfl) h
  unfold spec_AuditChain.f
  first
    | (simp only [impl_isDig, Option.bind_some, decide_eq_true_eq]
       exact Ev_pos h4 (Ev.bind hb hj))
    | exact Ev_pos (by omega) (Ev.bind hb hj)
/-! two chains -/
def clashR : List S47 → List S47 → ByteArray × ByteArray × Bool
  | a :: ra, b :: rb => if blockBytes a = blockBytes b then clashR ra rb else if bdig a = bdig b then (blockBytes a, blockBytes b, true) else (⟨#[]⟩, ⟨#[]⟩, false)
  | _, _ => (⟨#[]⟩, ⟨#[]⟩, false)
theorem impl_clash_l0 (a b : List S47) (ha : ∀ x ∈ a, goodB x = true) (hb : ∀ x ∈ b, goodB x = true) (hl : a.length = b.length) (hn : a.length ≤ 100) : ∀ (m : Nat), m ≤ a.length →
    Ev (fun k => impl_ClashIn.l0 k a b ((m : Int) - 1)) (clashR (a.take m).reverse (b.take m).reverse) := by
  intro m
  induction m with
  | zero =>
    intro _
    exact Ev.step (f := fun _ => some (⟨#[]⟩, ⟨#[]⟩, false)) (fun k => by rw [impl_ClashIn.l0, if_neg (by omega)]) (Ev.now _)
  | succ m ih =>
    intro hm
    have e0 : ((m + 1 : Nat) : Int) - 1 = (m : Int) := by omega
    rw [e0]
    have ht : a.take (m + 1) = a.take m ++ [a.getD m z47] := by have := take_snoc a z47 (i := (m : Int)) (by omega) (by omega); simpa using this
    have ht2 : b.take (m + 1) = b.take m ++ [b.getD m z47] := by have := take_snoc b z47 (i := (m : Int)) (by omega) (by omega); simpa using this
    rw [ht, ht2, List.reverse_append, List.reverse_singleton, List.singleton_append, List.reverse_append, List.reverse_singleton, List.singleton_append, clashR]
    have hx : goodB (a.getD m z47) = true := ha _ (getD_mem a z47 (i := (m : Int)) (by omega) (by omega))
    have hy : goodB (b.getD m z47) = true := hb _ (getD_mem b z47 (i := (m : Int)) (by omega) (by omega))
    refine Ev.step (f := fun k => (impl_Block_bytes.f k (a.getD m z47).f0 (a.getD m z47).f1 (a.getD m z47).f2).bind fun t => ((impl_Block_bytes.f k (b.getD m z47).f0 (b.getD m z47).f1 (b.getD m z47).f2).bind fun t2 => (if t.toList = t2.toList then impl_ClashIn.l0 k a b ((m : Int) - 1) else ((impl_Block_digest.f k (a.getD m z47).f0 (a.getD m z47).f1 (a.getD m z47).f2).bind fun t3 => ((impl_Block_digest.f k (b.getD m z47).f0 (b.getD m z47).f1 (b.getD m z47).f2).bind fun t4 => (if t3.toList = t4.toList then some (t, t2, true) else some (⟨#[]⟩, ⟨#[]⟩, false))))))) (fun k => by
      rw [impl_ClashIn.l0, if_pos (by omega), if_pos (by omega), if_pos (by omega)]
      simp only [show (m : Int) < (b.length : Int) by omega, if_true, show wrap64 ((m : Int) - 1) = (m : Int) - 1 from w64 (by omega) (by omega)]
      rfl) ?_
    refine Ev.bind (impl_bytes hx) (Ev.bind (impl_bytes hy) ?_)
    refine Ev_ite (fun h => ?_) (fun h => ?_)
    · rw [if_pos (str_inj.1 h)]; exact ih (by omega)
    · rw [if_neg (fun e => h (str_inj.2 e))]
      refine Ev.bind (impl_bdig hx) (Ev.bind (impl_bdig hy) (Ev_ite (fun h2 => ?_) (fun h2 => ?_)))
      · rw [if_pos (str_inj.1 h2)]; exact Ev.now _
      · rw [if_neg (fun e => h2 (str_inj.2 e))]; exact Ev.now _
theorem spec_clash_l0 (a b : List S47) (ha : ∀ x ∈ a, goodB x = true) (hb : ∀ x ∈ b, goodB x = true) (hl : a.length = b.length) (hn : a.length ≤ 100) : ∀ (m : Nat), m ≤ a.length →
    Ev (fun k => spec_ClashIn.l0 k a b ((m : Int) - 1)) (clashR (a.take m).reverse (b.take m).reverse) := by
  intro m
  induction m with
  | zero =>
    intro _
    exact Ev.step (f := fun _ => some (⟨#[]⟩, ⟨#[]⟩, false)) (fun k => by rw [spec_ClashIn.l0, if_neg (by omega)]) (Ev.now _)
  | succ m ih =>
    intro hm
    have e0 : ((m + 1 : Nat) : Int) - 1 = (m : Int) := by omega
    rw [e0]
    have ht : a.take (m + 1) = a.take m ++ [a.getD m z47] := by have := take_snoc a z47 (i := (m : Int)) (by omega) (by omega); simpa using this
    have ht2 : b.take (m + 1) = b.take m ++ [b.getD m z47] := by have := take_snoc b z47 (i := (m : Int)) (by omega) (by omega); simpa using this
    rw [ht, ht2, List.reverse_append, List.reverse_singleton, List.singleton_append, List.reverse_append, List.reverse_singleton, List.singleton_append, clashR]
    have hx : goodB (a.getD m z47) = true := ha _ (getD_mem a z47 (i := (m : Int)) (by omega) (by omega))
    have hy : goodB (b.getD m z47) = true := hb _ (getD_mem b z47 (i := (m : Int)) (by omega) (by omega))
    refine Ev.step (f := fun k => (spec_l16Bytes.f k (a.getD m z47).f0 (a.getD m z47).f1 (a.getD m z47).f2).bind fun t => ((spec_l16Bytes.f k (b.getD m z47).f0 (b.getD m z47).f1 (b.getD m z47).f2).bind fun t2 => (if t.toList = t2.toList then spec_ClashIn.l0 k a b ((m : Int) - 1) else ((spec_l16Digest.f k (a.getD m z47).f0 (a.getD m z47).f1 (a.getD m z47).f2).bind fun t3 => ((spec_l16Digest.f k (b.getD m z47).f0 (b.getD m z47).f1 (b.getD m z47).f2).bind fun t4 => (if t3.toList = t4.toList then some (t, t2, true) else some (⟨#[]⟩, ⟨#[]⟩, false))))))) (fun k => by
      rw [spec_ClashIn.l0, if_pos (by omega), if_pos (by omega), if_pos (by omega)]
      simp only [show (m : Int) < (b.length : Int) by omega, if_true, show wrap64 ((m : Int) - 1) = (m : Int) - 1 from w64 (by omega) (by omega)]
      rfl) ?_
    refine Ev.bind (spec_bytes hx) (Ev.bind (spec_bytes hy) ?_)
    refine Ev_ite (fun h => ?_) (fun h => ?_)
    · rw [if_pos (str_inj.1 h)]; exact ih (by omega)
    · rw [if_neg (fun e => h (str_inj.2 e))]
      refine Ev.bind (spec_bdig hx) (Ev.bind (spec_bdig hy) (Ev_ite (fun h2 => ?_) (fun h2 => ?_)))
      · rw [if_pos (str_inj.1 h2)]; exact Ev.now _
      · rw [if_neg (fun e => h2 (str_inj.2 e))]; exact Ev.now _
def clashF (a b : List S47) : ByteArray × ByteArray × Bool := if goodC a = true ∧ goodC b = true ∧ a.length = b.length ∧ lastD a = lastD b then clashR a.reverse b.reverse else (⟨#[]⟩, ⟨#[]⟩, false)
theorem impl_clash {a b : List S47} (ha : allGood a = true) (hb : allGood b = true) : Ev (fun k => impl_ClashIn.f k a b) (clashF a b) := by
  have hna := allGood_len ha
  have hnb := allGood_len hb
  have no : ∀ y : Bool, y = true → Ev (fun k => impl_ClashIn.j0 k a b y) ((⟨#[]⟩, ⟨#[]⟩, false) : ByteArray × ByteArray × Bool) := fun y hy => Ev.step (f := fun _ => some (⟨#[]⟩, ⟨#[]⟩, false)) (fun k => by rw [impl_ClashIn.j0, if_pos hy]) (Ev.now _)
  unfold impl_ClashIn.f clashF
  refine Ev.bind (impl_chain a (by omega) (fun x hx => by have := good_items (allGood_mem ha hx); omega)) ?_
  refine Ev_ite (fun h0 => ?_) (fun h0 => by rw [if_neg (fun h => h0 h.1)]; exact no true rfl)
  refine Ev.bind (impl_chain b (by omega) (fun x hx => by have := good_items (allGood_mem hb hx); omega)) ?_
  refine Ev_ite (fun h1 => ?_) (fun h1 => by rw [if_neg (fun h => h1 h.2.1)]; exact no true rfl)
  refine Ev_ite (fun h2 => ?_) (fun h2 => by rw [if_neg (fun h => h2 (by omega))]; exact no true rfl)
  refine Ev.bind (impl_last a (fun x hx => allGood_mem ha hx) (by omega)) (Ev.bind (impl_last b (fun x hx => allGood_mem hb hx) (by omega)) ?_)
  by_cases h3 : lastD a = lastD b
  · rw [if_pos ⟨h0, h1, by omega, h3⟩]
    have h := impl_clash_l0 a b (fun x hx => allGood_mem ha hx) (fun x hx => allGood_mem hb hx) (by omega) (by omega) a.length (Nat.le_refl _)
    rw [List.take_length, List.take_of_length_le (by omega)] at h
    exact Ev.step (f := fun k => impl_ClashIn.l0 k a b ((a.length : Int) - 1)) (fun k => by
      rw [impl_ClashIn.j0, h3, if_neg (by simp), w64 (n := (a.length : Int) - 1) (by omega) (by omega)]) h
  · rw [if_neg (fun h => h3 h.2.2.2)]
    exact no _ (by simp [str_inj, h3])
theorem spec_clash {a b : List S47} (ha : allGood a = true) (hb : allGood b = true) : Ev (fun k => spec_ClashIn.f k a b) (clashF a b) := by
  have hna := allGood_len ha
  have hnb := allGood_len hb
  have no : ∀ y : Bool, y = true → Ev (fun k => spec_ClashIn.j0 k a b y) ((⟨#[]⟩, ⟨#[]⟩, false) : ByteArray × ByteArray × Bool) := fun y hy => Ev.step (f := fun _ => some (⟨#[]⟩, ⟨#[]⟩, false)) (fun k => by rw [spec_ClashIn.j0, if_pos hy]) (Ev.now _)
  unfold spec_ClashIn.f clashF
  refine Ev.bind (spec_chain a (by omega) (fun x hx => by have := good_items (allGood_mem ha hx); omega)) ?_
  refine Ev_ite (fun h0 => ?_) (fun h0 => by rw [if_neg (fun h => h0 h.1)]; exact no true rfl)
  refine Ev.bind (spec_chain b (by omega) (fun x hx => by have := good_items (allGood_mem hb hx); omega)) ?_
  refine Ev_ite (fun h1 => ?_) (fun h1 => by rw [if_neg (fun h => h1 h.2.1)]; exact no true rfl)
  refine Ev_ite (fun h2 => ?_) (fun h2 => by rw [if_neg (fun h => h2 (by omega))]; exact no true rfl)
  refine Ev.bind (spec_last a (fun x hx => allGood_mem ha hx) (by omega)) (Ev.bind (spec_last b (fun x hx => allGood_mem hb hx) (by omega)) ?_)
  by_cases h3 : lastD a = lastD b
  · rw [if_pos ⟨h0, h1, by omega, h3⟩]
    have h := spec_clash_l0 a b (fun x hx => allGood_mem ha hx) (fun x hx => allGood_mem hb hx) (by omega) (by omega) a.length (Nat.le_refl _)
    rw [List.take_length, List.take_of_length_le (by omega)] at h
    exact Ev.step (f := fun k => spec_ClashIn.l0 k a b ((a.length : Int) - 1)) (fun k => by
      rw [spec_ClashIn.j0, h3, if_neg (by simp), w64 (n := (a.length : Int) - 1) (by omega) (by omega)]) h
  · rw [if_neg (fun h => h3 h.2.2.2)]
    exact no _ (by simp [str_inj, h3])
theorem ba_data {a b : ByteArray} (h : a.data.toList = b.data.toList) : a = b := str_inj.1 (by rw [ByteArray.toList_eq, ByteArray.toList_eq]; exact h)
theorem ba_app (a b : ByteArray) : (a ++ b).data.toList = a.data.toList ++ b.data.toList := by rw [ByteArray.data_append, Array.toList_append]
theorem ba_len (a : ByteArray) : a.data.toList.length = a.size := by rw [Array.length_toList]; rfl
theorem rowB_inj : ∀ (l m : List ByteArray), (∀ s ∈ l, s.size ≤ 60) → (∀ s ∈ m, s.size ≤ 60) → rowB l = rowB m → l = m := by
  intro l
  induction l with
  | nil =>
    intro m _ _ h
    cases m with
    | nil => rfl
    | cons s m =>
      have := congrArg ByteArray.size h
      simp only [rowB, ByteArray.size_append, size_str, List.length_cons, List.length_nil] at this
      have e : (⟨#[]⟩ : ByteArray).size = 0 := rfl
      omega
  | cons s l ih =>
    intro m hl hm h
    cases m with
    | nil =>
      have := congrArg ByteArray.size h
      simp only [rowB, ByteArray.size_append, size_str, List.length_cons, List.length_nil] at this
      have e : (⟨#[]⟩ : ByteArray).size = 0 := rfl
      omega
    | cons t m =>
      have hs := hl s (List.mem_cons_self)
      have ht := hm t (List.mem_cons_self)
      have h2 := congrArg (fun x : ByteArray => x.data.toList) h
      simp only [rowB, ba_app] at h2
      have e1 : ∀ n : Int, (strOfNums [n]).data.toList = [UInt8.ofNat n.toNat] := fun n => by unfold strOfNums; simp
      rw [e1, e1] at h2
      simp only [List.cons_append, List.nil_append, List.cons.injEq] at h2
      have h3 : s.size = t.size := by
        have := congrArg UInt8.toNat h2.1
        simp only [UInt8.toNat_ofNat'] at this
        omega
      have h4 := List.append_inj h2.2 (by rw [ba_len, ba_len]; exact h3)
      rw [ba_data h4.1, ih m (fun x hx => hl x (List.mem_cons_of_mem _ hx)) (fun x hx => hm x (List.mem_cons_of_mem _ hx)) (ba_data h4.2)]
theorem blockBytes_inj {a b : S47} (ha : goodB a = true) (hb : goodB b = true) (h : blockBytes a = blockBytes b) : a = b := by
  obtain ⟨a0, a1, a2, a3⟩ := (goodB_iff a).1 ha
  obtain ⟨b0, b1, b2, b3⟩ := (goodB_iff b).1 hb
  have h2 := congrArg (fun x : ByteArray => x.data.toList) h
  simp only [blockBytes, ba_app, List.append_assoc] at h2
  have h3 := List.append_inj h2 (by rw [ba_len, ba_len]; omega)
  have h4 := List.append_inj h3.2 (by rw [ba_len, ba_len]; omega)
  cases a; cases b
  simp only at *
  rw [ba_data h3.1, ba_data h4.1, rowB_inj _ _ a3 b3 (ba_data h4.2)]
theorem clash_iff : ∀ (ra rb : List S47), (∀ x ∈ ra, goodB x = true) → (∀ x ∈ rb, goodB x = true) → ra.length = rb.length → linked zero4 ra.reverse = true → linked zero4 rb.reverse = true → lastD ra.reverse = lastD rb.reverse →
    ((clashR ra rb).2.2 = true ↔ ra ≠ rb) ∧ ((clashR ra rb).2.2 = true → ∃ x y, goodB x = true ∧ goodB y = true ∧ (clashR ra rb).1 = blockBytes x ∧ (clashR ra rb).2.1 = blockBytes y ∧ bdig x = bdig y ∧ blockBytes x ≠ blockBytes y) := by
  intro ra
  induction ra with
  | nil =>
    intro rb _ _ hl _ _ _
    have : rb = [] := List.length_eq_zero_iff.1 hl.symm
    subst this
    simp [clashR]
  | cons a ra ih =>
    intro rb ha hb hl h1 h2 h3
    cases rb with
    | nil => simp at hl
    | cons b rb =>
      rw [List.reverse_cons, linked_lastD] at h1 h2
      rw [List.reverse_cons, List.reverse_cons, lastD_snoc, lastD_snoc] at h3
      simp only [Bool.and_eq_true, decide_eq_true_eq] at h1 h2
      have ga := ha a (List.mem_cons_self)
      have gb := hb b (List.mem_cons_self)
      rw [clashR]
      by_cases he : blockBytes a = blockBytes b
      · have e := blockBytes_inj ga gb he
        subst e
        rw [if_pos rfl]
        obtain ⟨i1, i2⟩ := ih rb (fun x hx => ha x (List.mem_cons_of_mem _ hx)) (fun x hx => hb x (List.mem_cons_of_mem _ hx)) (by simpa using hl) h1.1 h2.1 (h1.2.symm.trans h2.2)
        refine ⟨i1.trans ?_, i2⟩
        simp
      · rw [if_neg he, if_pos h3]
        refine ⟨⟨fun _ h => he (by rw [(List.cons.inj h).1]), fun _ => rfl⟩, fun _ => ⟨a, b, ga, gb, rfl, rfl, h3, he⟩⟩
/-! the laws' own comparisons -/
theorem sameTexts_l0 (a b : List ByteArray) (hl : a.length = b.length) (hn : a.length ≤ 4611686018427387904) : ∀ (d : Nat) (i : Int), 0 ≤ i → (a.length : Int) - i = d →
    ∃ r, Ev (fun k => laws_sameTexts.l0 k a b (a.length : Int) i) r ∧ (r = true ↔ a.drop i.toNat = b.drop i.toNat) := by
  intro d
  induction d with
  | zero =>
    intro i h0 hd
    refine ⟨true, Ev.step (f := fun _ => some true) (fun k => by rw [laws_sameTexts.l0, if_neg (by omega)]) (Ev.now _), ?_⟩
    rw [drop_nil a (by omega), drop_nil b (by omega)]
    simp
  | succ d ih =>
    intro i h0 hd
    obtain ⟨r, hr, e⟩ := ih (i + 1) (by omega) (by omega)
    rw [drop_getD a ByteArray.empty h0 (by omega), drop_getD b ByteArray.empty h0 (by omega)]
    by_cases h : a.getD i.toNat ByteArray.empty = b.getD i.toNat ByteArray.empty
    · refine ⟨r, Ev.step (f := fun k => laws_sameTexts.l0 k a b (a.length : Int) (i + 1)) (fun k => ?_) hr, ?_⟩
      · rw [laws_sameTexts.l0, if_pos (by omega), if_pos h0, if_pos (by omega), if_pos (by omega), if_pos (show (rdOf ByteArray.empty a i).toList = (rdOf ByteArray.empty b i).toList from str_inj.2 h), w64 (n := i + 1) (by omega) (by omega)]
      · rw [e, h]; simp
    · refine ⟨false, Ev.step (f := fun _ => some false) (fun k => ?_) (Ev.now _), ?_⟩
      · rw [laws_sameTexts.l0, if_pos (by omega), if_pos h0, if_pos (by omega), if_pos (by omega), if_neg (show ¬ (rdOf ByteArray.empty a i).toList = (rdOf ByteArray.empty b i).toList from fun x => h (str_inj.1 x))]
      · exact ⟨(fun x => by cases x), fun x => absurd (List.cons.inj x).1 h⟩
theorem sameTexts_ends (a b : List ByteArray) (hn : a.length ≤ 4611686018427387904) : ∃ r, Ev (fun k => laws_sameTexts.f k a b) r ∧ (r = true ↔ a = b) := by
  unfold laws_sameTexts.f
  by_cases hl : a.length = b.length
  · obtain ⟨r, hr, e⟩ := sameTexts_l0 a b hl hn a.length 0 (by omega) (by omega)
    exact ⟨r, Ev_pos (by omega) hr, by simpa using e⟩
  · exact ⟨false, Ev_neg (by omega) (Ev.now _), by simp; intro h; exact hl (by rw [h])⟩
theorem sameBlock_ends (a b : S47) (hn : a.f2.length ≤ 4611686018427387904) : ∃ r, Ev (fun k => laws_sameBlock.f k a.f0 a.f1 a.f2 b.f0 b.f1 b.f2) r ∧ (r = true ↔ a = b) := by
  unfold laws_sameBlock.f
  obtain ⟨r, hr, e⟩ := sameTexts_ends a.f2 b.f2 hn
  cases a with
  | mk a0 a1 a2 =>
  cases b with
  | mk b0 b1 b2 =>
  simp only [S47.mk.injEq] at *
  by_cases h0 : a0 = b0
  · by_cases h1 : a1 = b1
    · exact ⟨r, Ev_pos (str_inj.2 h0) (Ev_pos (str_inj.2 h1) (Ev.bind hr (Ev.now _))), by rw [e]; simp [h0, h1]⟩
    · exact ⟨false, Ev_pos (str_inj.2 h0) (Ev_neg (fun h => h1 (str_inj.1 h)) (Ev.now _)), by simp [h1]⟩
  · exact ⟨false, Ev_neg (fun h => h0 (str_inj.1 h)) (Ev.now _), by simp [h0]⟩
theorem sameChain_l0 (a b : List S47) (hl : a.length = b.length) (hn : a.length ≤ 4611686018427387904) (hi : ∀ x ∈ a, x.f2.length ≤ 4611686018427387904) : ∀ (d : Nat) (i : Int), 0 ≤ i → (a.length : Int) - i = d →
    ∃ r, Ev (fun k => laws_sameChain.l0 k a b (a.length : Int) i) r ∧ (r = true ↔ a.drop i.toNat = b.drop i.toNat) := by
  intro d
  induction d with
  | zero =>
    intro i h0 hd
    refine ⟨true, Ev.step (f := fun _ => some true) (fun k => by rw [laws_sameChain.l0, if_neg (by omega)]) (Ev.now _), ?_⟩
    rw [drop_nil a (by omega), drop_nil b (by omega)]
    simp
  | succ d ih =>
    intro i h0 hd
    obtain ⟨r, hr, e⟩ := ih (i + 1) (by omega) (by omega)
    rw [drop_getD a z47 h0 (by omega), drop_getD b z47 h0 (by omega)]
    obtain ⟨q, hq, eq⟩ := sameBlock_ends (a.getD i.toNat z47) (b.getD i.toNat z47) (hi _ (getD_mem a z47 h0 (by omega)))
    have st : ∀ k, laws_sameChain.l0 (k + 1) a b (a.length : Int) i = ((laws_sameBlock.f k (a.getD i.toNat z47).f0 (a.getD i.toNat z47).f1 (a.getD i.toNat z47).f2 (b.getD i.toNat z47).f0 (b.getD i.toNat z47).f1 (b.getD i.toNat z47).f2).bind fun t => (if t = true then laws_sameChain.l0 k a b (a.length : Int) (i + 1) else some false)) := fun k => by
      rw [laws_sameChain.l0, if_pos (by omega), if_pos h0, if_pos (by omega), if_pos (by omega), w64 (n := i + 1) (by omega) (by omega)]; rfl
    cases q with
    | true =>
      refine ⟨r, Ev.step st (Ev.bind hq (Ev_pos rfl hr)), ?_⟩
      rw [e, eq.1 rfl]; simp
    | false =>
      refine ⟨false, Ev.step st (Ev.bind hq (Ev_neg (by decide) (Ev.now _))), ?_⟩
      have : a.getD i.toNat z47 ≠ b.getD i.toNat z47 := fun h => by have := eq.2 h; cases this
      exact ⟨(fun x => by cases x), fun x => absurd (List.cons.inj x).1 this⟩
theorem sameChain_ends (a b : List S47) (hn : a.length ≤ 4611686018427387904) (hi : ∀ x ∈ a, x.f2.length ≤ 4611686018427387904) : ∃ r, Ev (fun k => laws_sameChain.f k a b) r ∧ (r = true ↔ a = b) := by
  unfold laws_sameChain.f
  by_cases hl : a.length = b.length
  · obtain ⟨r, hr, e⟩ := sameChain_l0 a b hl hn hi a.length 0 (by omega) (by omega)
    exact ⟨r, Ev_pos (by omega) hr, by simpa using e⟩
  · exact ⟨false, Ev_neg (by omega) (Ev.now _), by simp; intro h; exact hl (by rw [h])⟩
theorem impl_digestOf (kind : Int) (s : ByteArray) (h0 : 97 ≤ kind) (h1 : kind ≤ 122) (hs : s.size ≤ 600) : Ev (fun k => impl_DigestOf.f k kind s) (digest kind s, true) := by
  have e : impl_isKind.f kind = some true := by unfold impl_isKind.f; rw [if_pos (by omega)]; simp; omega
  unfold impl_DigestOf.f
  rw [e]
  simp only [Option.bind_some, if_true]
  exact (Ev_neg (by omega) (Ev.bind (impl_dig kind s (by omega) (by omega) (by omega)) (Ev.now _)))
end Go.Proofs.Ytfhmkdempebmbaa.U
