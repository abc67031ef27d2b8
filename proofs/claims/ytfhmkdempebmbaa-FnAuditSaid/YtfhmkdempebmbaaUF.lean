/- A block put behind a chain (the reference), and drawn chains: all their blocks are good. -/
import Derived.Test.YtfhmkdempebmbaaUE
import Derived.Test.YtfhmkdempebmbaaUC
import Derived.Test.YtfhmkdempebmbaaPAudx3
import Derived.Test.YtfhmkdempebmbaaPAudx4
namespace Go.Proofs.Ytfhmkdempebmbaa.U
open Go.RowKit Go.Proofs.YtfhmkdempebmbaaW.PrintWords Go.Proofs.Ytfhmkdempebmbaa.PAud

theorem spec_own_l0 (l : List S47) (hn : l.length ≤ 100) (hi : ∀ b ∈ l, b.f2.length ≤ 1000) : ∀ (d : Nat) (i : Int) (acc : List S47), 0 ≤ i → (l.length : Int) - i = d → acc.length + d ≤ 1000 →
    Ev (fun k => spec_l16Own.l0 k acc l (l.length : Int) i) (acc ++ l.drop i.toNat) := by
  intro d
  induction d with
  | zero =>
    intro i acc h0 hd _
    refine Ev.step (f := fun _ => some acc) (fun k => by rw [spec_l16Own.l0, if_neg (by omega)]) ?_
    rw [drop_nil l (by omega), List.append_nil]
    exact Ev.now _
  | succ d ih =>
    intro i acc h0 hd ha
    have hx : (rd_T47 l i).f2.length ≤ 1000 := hi _ (getD_mem l z47 h0 (by omega))
    refine Ev.step (f := fun k => spec_l16Own.l0 k (acc ++ [rd_T47 l i]) l (l.length : Int) (i + 1)) (fun k => ?_) ?_
    · rw [spec_l16Own.l0, if_pos (by omega), if_pos h0, if_pos (by omega)]
      simp only [Option.bind_some, List.length_nil, List.nil_append]
      rw [if_pos (by omega), if_pos (by omega), w64 (n := i + 1) (by omega) (by omega)]
    · rw [drop_getD l z47 h0 (by omega)]
      refine Ev_cast (ih (i + 1) _ (by omega) (by omega) (by simp only [List.length_append, List.length_cons, List.length_nil]; omega)) ?_
      rw [List.append_assoc]; rfl
theorem spec_own (l : List S47) (hn : l.length ≤ 100) (hi : ∀ b ∈ l, b.f2.length ≤ 1000) : Ev (fun k => spec_l16Own.f k l) l := by
  unfold spec_l16Own.f
  exact spec_own_l0 l hn hi l.length 0 [] (by omega) (by omega) (by simp only [List.length_nil]; omega)
def putOk (l : List S47) (root : ByteArray) (items : List ByteArray) : Bool := goodC l && (goodB ⟨zero4, root, items⟩ && !decide (l.length = 12))
def putB (l : List S47) (root : ByteArray) (items : List ByteArray) : List S47 × Bool := if putOk l root items = true then (l ++ [⟨lastD l, root, items⟩], true) else ([], false)
theorem spec_put (l : List S47) (root : ByteArray) (items : List ByteArray) (hn : l.length ≤ 100) (hi : ∀ b ∈ l, b.f2.length ≤ 1000) (hm : items.length ≤ 1000) : Ev (fun k => spec_PutBlock.f k l root items) (putB l root items) := by
  have no : ∀ y : Bool, y = true → Ev (fun k => spec_PutBlock.j0 k l y zero4 root items) (([], false) : List S47 × Bool) := fun y hy => Ev.step (f := fun _ => some ([], false)) (fun k => by rw [spec_PutBlock.j0, if_pos hy]) (Ev.now _)
  unfold spec_PutBlock.f
  simp only [Option.bind_some, List.length_nil, List.nil_append]
  refine Ev_pos (by omega) ?_
  refine Ev.bind (spec_chain l hn (fun b hb => Nat.le_trans (hi b hb) (by omega))) ?_
  unfold putB putOk
  refine Ev_ite (fun hc => ?_) (fun hc => ?_)
  · refine Ev.bind (spec_good ⟨zero4, root, items⟩ (by simp only []; omega)) ?_
    refine Ev_ite (fun hb => ?_) (fun hb => ?_)
    · by_cases h12 : l.length = 12
      · rw [if_neg (by simp [h12])]
        exact no _ (by simp [h12])
      · rw [if_pos (by simp [hc, hb, h12])]
        refine Ev.step (f := fun k => (spec_l16Last.f k l).bind fun t => ((spec_l16Own.f k l).bind fun t2 => (if t2.length + 1 < 2513169434916 then some (t2 ++ [⟨t, root, items⟩], true) else none))) (fun k => ?_) ?_
        · rw [spec_PutBlock.j0, if_neg (by simp; omega)]; rfl
        · refine Ev.bind (spec_last l (fun b hb => allGood_mem (goodC_all hc) hb) hn) (Ev.bind (spec_own l hn hi) (Ev_pos (by omega) (Ev.now _)))
    · rw [if_neg (by simp [hb])]
      exact no true rfl
  · rw [if_neg (by simp [hc])]
    exact no true rfl
theorem digest_size4 (b : S47) : (bdig b).size = 4 := digest_size _ _
theorem lastD_size (l : List S47) : (lastD l).size = 4 := by
  unfold lastD
  split
  · rfl
  · exact digest_size4 _
def lastOr (p : ByteArray) : List S47 → ByteArray
  | [] => p
  | c :: l => lastOr (bdig c) l
theorem lastOr_snoc (l : List S47) (b : S47) : ∀ p : ByteArray, lastOr p (l ++ [b]) = bdig b := by
  induction l with
  | nil => intro p; rfl
  | cons c l ih => intro p; exact ih _
theorem lastD_or (l : List S47) : lastD l = lastOr zero4 l := by
  rcases List.eq_nil_or_concat l with rfl | ⟨l', b, rfl⟩
  · rfl
  · rw [List.concat_eq_append, lastD_snoc, lastOr_snoc]
theorem linked_snoc (l : List S47) (b : S47) : ∀ p : ByteArray, linked p (l ++ [b]) = (linked p l && decide (b.f0 = lastOr p l)) := by
  induction l with
  | nil => intro p; show (decide (b.f0 = p) && true) = (true && decide (b.f0 = p)); rw [Bool.and_true, Bool.true_and]
  | cons c l ih => intro p; rw [List.cons_append, linked, ih, linked, Bool.and_assoc, lastOr]
theorem linked_lastD (l : List S47) (b : S47) : linked zero4 (l ++ [b]) = (linked zero4 l && decide (b.f0 = lastD l)) := by rw [lastD_or]; exact linked_snoc l b zero4
theorem putB_good {l : List S47} {root : ByteArray} {items : List ByteArray} (h : putOk l root items = true) : goodC (l ++ [⟨lastD l, root, items⟩]) = true := by
  unfold putOk at h
  simp only [Bool.and_eq_true, Bool.not_eq_true', decide_eq_false_iff_not] at h
  obtain ⟨hc, hb, h12⟩ := h
  have ha := (allGood_iff l).1 (goodC_all hc)
  have hl : linked zero4 l = true := by unfold goodC at hc; simp at hc; exact hc.2
  have hb' := (goodB_iff _).1 hb
  have hnew : goodB ⟨lastD l, root, items⟩ = true := (goodB_iff _).2 ⟨lastD_size l, hb'.2⟩
  unfold goodC
  rw [linked_lastD, hl]
  simp only [decide_true, Bool.and_true]
  refine (allGood_iff _).2 ⟨by simp; omega, fun b hb => ?_⟩
  rcases List.mem_append.1 hb with hb | hb
  · exact ha.2 b hb
  · rw [List.mem_singleton.1 hb]; exact hnew
theorem putB_all {l : List S47} {root : ByteArray} {items : List ByteArray} (h : (putB l root items).2 = true) : allGood (putB l root items).1 = true := by
  unfold putB at h ⊢
  by_cases hp : putOk l root items = true
  · rw [if_pos hp]; exact goodC_all (putB_good hp)
  · rw [if_neg hp] at h; simp at h
/-! drawn items, drawn chains -/
theorem of_ends {code : List Int} (hc : Bytes code) {a : Int} (h0 : 0 ≤ a) (h1 : a ≤ 4611686018427387000) (s : Int) (l : List ByteArray) (hl : 1 ≤ l.length) :
    ∃ x a' s', spec_l1Cur_of.f code a s l = some (x, a', s') ∧ x ∈ l ∧ a ≤ a' ∧ a' ≤ a + 2 := by
  obtain ⟨r, a', s', e, r0, r1, h2, h3⟩ := pick_ends hc h0 h1 s (l.length : Int)
  unfold spec_l1Cur_of.f
  rw [e]
  simp only [Option.bind_some]
  have hr := r1 (by omega)
  rw [if_pos r0, if_pos hr]
  exact ⟨_, _, _, rfl, getD_mem l ByteArray.empty r0 hr, h2, h3⟩
theorem items_l0 {code : List Int} (hc : Bytes code) : ∀ (d : Nat) (n a s : Int) (l : List ByteArray), n = d → 0 ≤ a → a + 2 * d ≤ 4611686018427380000 → l.length + d ≤ 100 → d ≤ 100 →
    ∃ r a' s', Ev (fun k => spec_l1Cur_items16.l0 k l n code a s) (r, a', s') ∧ r.length ≤ l.length + d ∧ a ≤ a' ∧ a' ≤ a + 2 * d + 4 := by
  intro d
  induction d with
  | zero =>
    intro n a s l hn h0 h1 hl _
    by_cases hp : (l.length : Int) > 0
    · obtain ⟨b, a1, s1, e1, h2, h3⟩ := one_ends hc h0 (by omega) s 20
      cases b with
      | false =>
        refine ⟨l, a1, s1, Ev.step (f := fun _ => some (l, a1, s1)) (fun k => ?_) (Ev.now _), by omega, h2, by omega⟩
        rw [spec_l1Cur_items16.l0, if_neg (by omega), if_pos hp, e1]
        rfl
      | true =>
        obtain ⟨r, a2, s2, e2, r0, r1, h4, h5⟩ := pick_ends hc (a := a1) (by omega) (by omega) s1 2
        have hr := r1 (by omega)
        refine ⟨l.set (0 : Int).toNat (strOfNums (List.replicate (60 + r : Int).toNat 0)), a2, s2, Ev.step (f := fun _ => some (l.set (0 : Int).toNat (strOfNums (List.replicate (60 + r : Int).toNat 0)), a2, s2)) (fun k => ?_) (Ev.now _), by simp, by omega, by omega⟩
        rw [spec_l1Cur_items16.l0, if_neg (by omega), if_pos hp, e1]
        simp only [Option.bind_some, if_true]
        rw [e2]
        simp only [Option.bind_some]
        rw [w64 (n := 60 + r) (by omega) (by omega), if_pos (by omega), if_pos (by omega), if_pos (by omega)]
    · refine ⟨l, a, s, Ev.step (f := fun _ => some (l, a, s)) (fun k => ?_) (Ev.now _), by omega, by omega, by omega⟩
      rw [spec_l1Cur_items16.l0, if_neg (by omega), if_neg hp]
  | succ d ih =>
    intro n a s l hn h0 h1 hl hd
    obtain ⟨x, a1, s1, e1, _, h2, h3⟩ := of_ends hc h0 (by omega) s (([(⟨#[]⟩ : ByteArray), (⟨#[112, 117, 116, 32, 97, 32, 49]⟩ : ByteArray), (⟨#[100, 114, 111, 112, 32, 98]⟩ : ByteArray), (⟨#[97, 99, 97]⟩ : ByteArray), (⟨#[98, 97, 98]⟩ : ByteArray)] : List ByteArray)) (by simp)
    obtain ⟨r, a2, s2, e2, hr, h4, h5⟩ := ih (n - 1) a1 s1 (l ++ [x]) (by omega) (by omega) (by omega) (by simp only [List.length_append, List.length_cons, List.length_nil]; omega) (by omega)
    refine ⟨r, a2, s2, Ev.step (f := fun k => spec_l1Cur_items16.l0 k (l ++ [x]) (n - 1) code a1 s1) (fun k => ?_) e2, by simp only [List.length_append, List.length_cons, List.length_nil] at hr; omega, by omega, by omega⟩
    rw [spec_l1Cur_items16.l0, if_pos (by omega), e1]
    simp only [Option.bind_some]
    rw [if_pos (by omega), w64 (n := n - 1) (by omega) (by omega)]
theorem items_ends {code : List Int} (hc : Bytes code) {a : Int} (h0 : 0 ≤ a) (h1 : a ≤ 4611686018427370000) (s : Int) :
    ∃ r a' s', Ev (fun k => spec_l1Cur_items16.f k code a s) (r, a', s') ∧ r.length ≤ 10 ∧ a ≤ a' ∧ a' ≤ a + 30 := by
  obtain ⟨r1, a1, s1, e1, p0, p1, h2, h3⟩ := pick_ends hc h0 (by omega) s 4
  obtain ⟨b, a2, s2, e2, h4, h5⟩ := one_ends hc (a := a1) (by omega) (by omega) s1 20
  unfold spec_l1Cur_items16.f
  rw [e1]
  simp only [Option.bind_some]
  rw [e2]
  simp only [Option.bind_some]
  have hp := p1 (by omega)
  cases b with
  | false =>
    obtain ⟨r, a', s', e, hr, h6, h7⟩ := items_l0 hc r1.toNat r1 a2 s2 [] (by omega) (by omega) (by omega) (by simp only [List.length_nil]; omega) (by omega)
    simp only [List.length_nil] at hr
    exact ⟨r, a', s', Ev_neg (by decide) (Ev.step (f := fun k => spec_l1Cur_items16.l0 k [] r1 code a2 s2) (fun k => by rw [spec_l1Cur_items16.j0]) e), by omega, by omega, by omega⟩
  | true =>
    obtain ⟨r3, a3, s3, e3, q0, q1, h8, h9⟩ := pick_ends hc (a := a2) (by omega) (by omega) s2 2
    have hq := q1 (by omega)
    obtain ⟨r, a', s', e, hr, h6, h7⟩ := items_l0 hc (6 + r3).toNat (6 + r3) a3 s3 [] (by omega) (by omega) (by omega) (by simp only [List.length_nil]; omega) (by omega)
    simp only [List.length_nil] at hr
    refine ⟨r, a', s', Ev_pos rfl ?_, by omega, by omega, by omega⟩
    rw [e3]
    simp only [Option.bind_some]
    rw [w64 (n := 6 + r3) (by omega) (by omega)]
    exact Ev.step (f := fun k => spec_l1Cur_items16.l0 k [] (6 + r3) code a3 s3) (fun k => by rw [spec_l1Cur_items16.j0]) e
theorem set_good {l : List S47} (h : allGood l = true) {i : Int} (h0 : 0 ≤ i) (h1 : i < (l.length : Int)) : allGood (l.set i.toNat (⟨(rd_T47 l i).f0, (⟨#[122, 122, 122, 122]⟩ : ByteArray), (rd_T47 l i).f2⟩ : S47)) = true := by
  obtain ⟨hl, hg⟩ := (allGood_iff l).1 h
  refine (allGood_iff _).2 ⟨by simpa using hl, fun b hb => ?_⟩
  rcases List.mem_or_eq_of_mem_set hb with hb | rfl
  · exact hg b hb
  · obtain ⟨g0, g1, g2, g3⟩ := (goodB_iff _).1 (hg _ (getD_mem l z47 h0 h1))
    exact (goodB_iff _).2 ⟨g0, rfl, g2, g3⟩
theorem chain_l0 {code : List Int} (hc : Bytes code) : ∀ (d : Nat) (n a s : Int) (l : List S47), n = d → 0 ≤ a → a + 40 * d ≤ 4611686018427360000 → allGood l = true → d ≤ 100 →
    ∃ r a' s', Ev (fun k => spec_l1Cur_chain.l0 k l n code a s) (r, a', s') ∧ allGood r = true ∧ a ≤ a' ∧ a' ≤ a + 40 * d + 4 := by
  intro d
  induction d with
  | zero =>
    intro n a s l hn h0 h1 hg _
    by_cases hp : (l.length : Int) > 0
    · obtain ⟨b, a1, s1, e1, h2, h3⟩ := one_ends hc h0 (by omega) s 12
      cases b with
      | false =>
        refine ⟨l, a1, s1, Ev.step (f := fun _ => some (l, a1, s1)) (fun k => ?_) (Ev.now _), hg, h2, by omega⟩
        rw [spec_l1Cur_chain.l0, if_neg (by omega), if_pos hp, e1]
        rfl
      | true =>
        obtain ⟨r, a2, s2, e2, r0, r1, h4, h5⟩ := pick_ends hc (a := a1) (by omega) (by omega) s1 (l.length : Int)
        have hr := r1 (by omega)
        refine ⟨_, a2, s2, Ev.step (f := fun _ => some (l.set r.toNat (⟨(rd_T47 l r).f0, (⟨#[122, 122, 122, 122]⟩ : ByteArray), (rd_T47 l r).f2⟩ : S47), a2, s2)) (fun k => ?_) (Ev.now _), set_good hg r0 hr, by omega, by omega⟩
        rw [spec_l1Cur_chain.l0, if_neg (by omega), if_pos hp, e1]
        simp only [Option.bind_some, if_true]
        rw [e2]
        simp only [Option.bind_some]
        rw [if_pos r0, if_pos hr]
    · refine ⟨l, a, s, Ev.step (f := fun _ => some (l, a, s)) (fun k => ?_) (Ev.now _), hg, by omega, by omega⟩
      rw [spec_l1Cur_chain.l0, if_neg (by omega), if_neg hp]
  | succ d ih =>
    intro n a s l hn h0 h1 hg hd
    obtain ⟨x, a1, s1, e1, _, h2, h3⟩ := of_ends hc h0 (by omega) s (([(⟨#[114, 114, 114, 114]⟩ : ByteArray), (⟨#[114, 111, 111, 116]⟩ : ByteArray), (⟨#[97, 98, 99]⟩ : ByteArray)] : List ByteArray)) (by simp)
    obtain ⟨it, a2, s2, e2, hi, h4, h5⟩ := items_ends hc (a := a1) (by omega) (by omega) s1
    have hput := spec_put l x it (by have := allGood_len hg; omega) (fun b hb => by have := good_items (allGood_mem hg hb); omega) (by omega)
    have hnext : allGood (if (putB l x it).2 = true then (putB l x it).1 else l) = true := by
      split
      · rename_i hp; exact putB_all hp
      · exact hg
    obtain ⟨r, a3, s3, e3, hr, h6, h7⟩ := ih (n - 1) a2 s2 _ (by omega) (by omega) (by omega) hnext (by omega)
    refine ⟨r, a3, s3, Ev.step (f := fun k => (spec_l1Cur_items16.f k code a1 s1).bind fun bt226 => ((spec_PutBlock.f k l x bt226.1).bind fun bt231 => (if bt231.2 = true then (spec_l1Cur_chain.l0 k bt231.1 (n - 1) code bt226.2.1 bt226.2.2) else (spec_l1Cur_chain.l0 k l (n - 1) code bt226.2.1 bt226.2.2)))) (fun k => ?_) ?_, hr, by omega, by omega⟩
    · rw [spec_l1Cur_chain.l0, if_pos (by omega), e1, w64 (n := n - 1) (by omega) (by omega)]
      rfl
    · refine Ev.bind e2 (Ev.bind hput ?_)
      by_cases hp : (putB l x it).2 = true
      · refine Ev_pos hp ?_
        rw [if_pos hp] at e3
        exact e3
      · refine Ev_neg hp ?_
        rw [if_neg hp] at e3
        exact e3
theorem chain_ends {code : List Int} (hc : Bytes code) {a : Int} (h0 : 0 ≤ a) (h1 : a ≤ 4611686018427340000) (s : Int) :
    ∃ r a' s', Ev (fun k => spec_l1Cur_chain.f k code a s) (r, a', s') ∧ allGood r = true ∧ a ≤ a' ∧ a' ≤ a + 1000 := by
  obtain ⟨r1, a1, s1, e1, p0, p1, h2, h3⟩ := pick_ends hc h0 (by omega) s 6
  obtain ⟨b, a2, s2, e2, h4, h5⟩ := one_ends hc (a := a1) (by omega) (by omega) s1 20
  unfold spec_l1Cur_chain.f
  rw [e1]
  simp only [Option.bind_some]
  rw [e2]
  simp only [Option.bind_some]
  have hp := p1 (by omega)
  cases b with
  | false =>
    obtain ⟨r, a', s', e, hr, h6, h7⟩ := chain_l0 hc r1.toNat r1 a2 s2 [] (by omega) (by omega) (by omega) rfl (by omega)
    exact ⟨r, a', s', Ev_neg (by decide) (Ev.step (f := fun k => spec_l1Cur_chain.l0 k [] r1 code a2 s2) (fun k => by rw [spec_l1Cur_chain.j0]) e), hr, by omega, by omega⟩
  | true =>
    obtain ⟨r, a', s', e, hr, h6, h7⟩ := chain_l0 hc 14 14 a2 s2 [] (by omega) (by omega) (by omega) rfl (by omega)
    exact ⟨r, a', s', Ev_pos rfl (Ev.step (f := fun k => spec_l1Cur_chain.l0 k [] 14 code a2 s2) (fun k => by rw [spec_l1Cur_chain.j0]) e), hr, by omega, by omega⟩
end Go.Proofs.Ytfhmkdempebmbaa.U
