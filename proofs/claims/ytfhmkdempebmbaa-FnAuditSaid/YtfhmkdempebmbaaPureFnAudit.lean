/- Who holds the last digest finds a chain right just if it is, and two that it holds show two unlike blocks with one digest, for drawn chains: the plain statement. -/
import Derived.Test.YtfhmkdempebmbaaUG
import Derived.Test.YtfhmkdempebmbaaPAudx4
import Derived.Test.YtfhmkdempebmbaaPAudx7
import Derived.Test.YtfhmkdempebmbaaPAudx11
namespace Go.Proofs.Ytfhmkdempebmbaa.Pure
open Go.RowKit Go.Proofs.Ytfhmkdempebmbaa.PAud Go.Proofs.YtfhmkdempebmbaaW.PrintWords Go.Proofs.YtfhmkdempebmbaaW.PrintLast Go.Proofs.Ytfhmkdempebmbaa.U

theorem small {l : List S47} (h : allGood l = true) : l.length ≤ 100 ∧ ∀ b ∈ l, b.f2.length ≤ 1000 := ⟨by have := allGood_len h; omega, fun b hb => by have := good_items (allGood_mem h hb); omega⟩
theorem small2 {l : List S47} (h : allGood l = true) : l.length ≤ 100 ∧ ∀ b ∈ l, b.f2.length ≤ 4611686018427387904 := ⟨by have := allGood_len h; omega, fun b hb => by have := good_items (allGood_mem h hb); omega⟩
theorem take_good {l : List S47} (h : allGood l = true) (n : Nat) : allGood (l.take n) = true := by
  obtain ⟨h1, h2⟩ := (allGood_iff l).1 h
  exact (allGood_iff _).2 ⟨by simp only [List.length_take]; omega, fun b hb => h2 b (take_mem hb)⟩
theorem drawAudit {code : List Int} (hc : Bytes code) : ∃ last l, Ev (fun k => spec_DrawAuditChain.f k code) (last, l) ∧ last.size = 4 ∧ allGood l = true := by
  obtain ⟨l, a, s, e, hg, h0, h1⟩ := chain_ends hc (a := 0) (by omega) (by omega) 0
  have hs := small2 hg
  have hd := spec_lastDig l hs.1 hs.2
  have hcut : ∀ last : ByteArray, last.size = 4 → ∃ last' l', Ev (fun (_ : Nat) => if (l.length : Int) > 0 then ((spec_l1Cur_one.f code a s 4).bind fun bt252 => (if bt252.1 = true then (if 0 ≤ (wrap64 ((l.length : Int) - 1)) then (if (wrap64 ((l.length : Int) - 1)) ≤ (l.length : Int) then (some (last, (l.take ((wrap64 ((l.length : Int) - 1)) : Int).toNat))) else (none)) else (none)) else (some (last, l)))) else (some (last, l))) (last', l') ∧ last'.size = 4 ∧ allGood l' = true := by
    intro last hl
    by_cases hp : (l.length : Int) > 0
    · obtain ⟨b, a2, s2, e2, _, _⟩ := one_ends hc (a := a) (by omega) (by omega) s 4
      rw [e2]
      simp only [Option.bind_some]
      rw [w64 (n := (l.length : Int) - 1) (by omega) (by omega)]
      cases b with
      | true => exact ⟨last, _, Ev_pos hp (Ev_pos rfl (Ev_pos (by omega) (Ev_pos (by omega) (Ev.now _)))), hl, take_good hg _⟩
      | false => exact ⟨last, l, Ev_pos hp (Ev_neg (by decide) (Ev.now _)), hl, hg⟩
    · exact ⟨last, l, Ev_neg hp (Ev.now _), hl, hg⟩
  unfold spec_DrawAuditChain.f
  by_cases hcc : goodC l = true
  · rw [if_pos hcc] at hd
    obtain ⟨last', l', h2, h3, h4⟩ := hcut (lastD l) (lastD_size l)
    exact ⟨last', l', Ev.bind e (Ev.bind hd (Ev_pos rfl h2)), h3, h4⟩
  · rw [if_neg hcc] at hd
    obtain ⟨last', l', h2, h3, h4⟩ := hcut (⟨#[108, 97, 115, 116]⟩ : ByteArray) rfl
    exact ⟨last', l', Ev.bind e (Ev.bind hd (Ev_neg (by decide) h2)), h3, h4⟩
theorem put_ends {l : List S47} (hg : allGood l = true) (root : ByteArray) (items : List ByteArray) (hm : items.length ≤ 1000) : Ev (fun k => spec_PutBlock.f k l root items) (putB l root items) := spec_put l root items (small hg).1 (small hg).2 hm
theorem drawClash {code : List Int} (hc : Bytes code) : ∃ x y, Ev (fun k => spec_DrawClashIn.f k code) (x, y) ∧ allGood x = true ∧ allGood y = true := by
  obtain ⟨l, a, s, e, hg, h0, h1⟩ := chain_ends hc (a := 0) (by omega) (by omega) 0
  obtain ⟨b, a1, s1, e1, h2, h3⟩ := one_ends hc (a := a) (by omega) (by omega) s 3
  unfold spec_DrawClashIn.f
  cases b with
  | true =>
    obtain ⟨l2, a2, s2, e2, hg2, h4, h5⟩ := chain_ends hc (a := a1) (by omega) (by omega) s1
    exact ⟨l, l2, Ev.bind e (by simp only []; rw [e1]; simp only [Option.bind_some]; exact Ev_pos (by first | rfl | trivial) (Ev.bind e2 (Ev.now _))), hg, hg2⟩
  | false =>
    have p1 := put_ends hg (⟨#[114, 111, 111, 116]⟩ : ByteArray) [(⟨#[97, 99, 97]⟩ : ByteArray)] (by simp)
    have p2 := put_ends hg (⟨#[114, 111, 111, 116]⟩ : ByteArray) [(⟨#[98, 97, 98]⟩ : ByteArray)] (by simp)
    have hgo : ∃ x y, Ev (fun k => if (putB l (⟨#[114, 111, 111, 116]⟩ : ByteArray) [(⟨#[97, 99, 97]⟩ : ByteArray)]).2 = true then (spec_DrawClashIn.j0 k l (putB l (⟨#[114, 111, 111, 116]⟩ : ByteArray) [(⟨#[97, 99, 97]⟩ : ByteArray)]).1 (putB l (⟨#[114, 111, 111, 116]⟩ : ByteArray) [(⟨#[98, 97, 98]⟩ : ByteArray)]).1 (!(putB l (⟨#[114, 111, 111, 116]⟩ : ByteArray) [(⟨#[98, 97, 98]⟩ : ByteArray)]).2) code a1 s1) else (spec_DrawClashIn.j0 k l (putB l (⟨#[114, 111, 111, 116]⟩ : ByteArray) [(⟨#[97, 99, 97]⟩ : ByteArray)]).1 (putB l (⟨#[114, 111, 111, 116]⟩ : ByteArray) [(⟨#[98, 97, 98]⟩ : ByteArray)]).1 true code a1 s1)) (x, y) ∧ allGood x = true ∧ allGood y = true := by
      generalize hp : putB l (⟨#[114, 111, 111, 116]⟩ : ByteArray) [(⟨#[97, 99, 97]⟩ : ByteArray)] = p
      generalize hq : putB l (⟨#[114, 111, 111, 116]⟩ : ByteArray) [(⟨#[98, 97, 98]⟩ : ByteArray)] = q
      have bad : ∀ y : Bool, y = true → Ev (fun k => spec_DrawClashIn.j0 k l p.1 q.1 y code a1 s1) (l, l) := fun y hy => Ev.step (f := fun _ => some (l, l)) (fun k => by rw [spec_DrawClashIn.j0, if_pos hy]) (Ev.now _)
      by_cases h6 : p.2 = true
      · by_cases h7 : q.2 = true
        · have gp : allGood p.1 = true := by rw [← hp] at h6 ⊢; exact putB_all h6
          have gq : allGood q.1 = true := by rw [← hq] at h7 ⊢; exact putB_all h7
          obtain ⟨it, a2, s2, e2, hi, h8, h9⟩ := items_ends hc (a := a1) (by omega) (by omega) s1
          have r1 := put_ends gp (⟨#[114, 114, 114, 114]⟩ : ByteArray) it (by omega)
          have r2 := put_ends gq (⟨#[114, 114, 114, 114]⟩ : ByteArray) it (by omega)
          obtain ⟨b3, a3, s3, e3, _, _⟩ := one_ends hc (a := a2) (by omega) (by omega) s2 2
          have st : ∀ k, spec_DrawClashIn.j0 (k + 1) l p.1 q.1 (!q.2) code a1 s1 = ((spec_l1Cur_items16.f k code a1 s1).bind fun bt353 => ((spec_PutBlock.f k p.1 (⟨#[114, 114, 114, 114]⟩ : ByteArray) bt353.1).bind fun bt358 => ((spec_PutBlock.f k q.1 (⟨#[114, 114, 114, 114]⟩ : ByteArray) bt353.1).bind fun bt362 => (if bt358.2 = true then (if bt362.2 = true then ((spec_l1Cur_one.f code bt353.2.1 bt353.2.2 2).bind fun bt366 => (if bt366.1 = true then (some (bt358.1, bt362.1)) else (some (p.1, q.1)))) else (some (p.1, q.1))) else (some (p.1, q.1)))))) := fun k => by
            rw [spec_DrawClashIn.j0, h7, if_neg (by decide)]
          by_cases h10 : (putB p.1 (⟨#[114, 114, 114, 114]⟩ : ByteArray) it).2 = true
          · by_cases h11 : (putB q.1 (⟨#[114, 114, 114, 114]⟩ : ByteArray) it).2 = true
            · cases b3 with
              | true => exact ⟨_, _, Ev_pos h6 (Ev.step st (Ev.bind e2 (Ev.bind r1 (Ev.bind r2 (Ev_pos h10 (Ev_pos h11 (by simp only []; rw [e3]; simp only [Option.bind_some]; exact Ev_pos (by first | rfl | trivial) (Ev.now _)))))))), putB_all h10, putB_all h11⟩
              | false => exact ⟨_, _, Ev_pos h6 (Ev.step st (Ev.bind e2 (Ev.bind r1 (Ev.bind r2 (Ev_pos h10 (Ev_pos h11 (by simp only []; rw [e3]; simp only [Option.bind_some]; exact Ev_neg (by decide) (Ev.now _)))))))), gp, gq⟩
            · exact ⟨_, _, Ev_pos h6 (Ev.step st (Ev.bind e2 (Ev.bind r1 (Ev.bind r2 (Ev_pos h10 (Ev_neg h11 (Ev.now _))))))), gp, gq⟩
          · exact ⟨_, _, Ev_pos h6 (Ev.step st (Ev.bind e2 (Ev.bind r1 (Ev.bind r2 (Ev_neg h10 (Ev.now _)))))), gp, gq⟩
        · exact ⟨l, l, Ev_pos h6 (bad _ (by simpa using h7)), hg, hg⟩
      · exact ⟨l, l, Ev_neg h6 (bad _ rfl), hg, hg⟩
    obtain ⟨x, y, h8, h9, h10⟩ := hgo
    exact ⟨x, y, Ev.bind e (by simp only []; rw [e1]; simp only [Option.bind_some]; exact Ev_neg (by decide) (Ev.bind p1 (Ev.bind p2 h8))), h9, h10⟩
theorem j3_ends (x y : ByteArray) (t : Bool) (h : t = true → ∃ a b, goodB a = true ∧ goodB b = true ∧ x = blockBytes a ∧ y = blockBytes b ∧ bdig a = bdig b ∧ blockBytes a ≠ blockBytes b) : Ev (fun k => laws_FnAudit.j3 k x y t false) true := by
  cases t with
  | false => exact Ev.step (f := fun _ => some true) (fun k => by rw [laws_FnAudit.j3, if_neg (by decide), if_neg (by decide)]) (Ev.now _)
  | true =>
    obtain ⟨a, b, ga, gb, rfl, rfl, h1, h2⟩ := h rfl
    have za := blockBytes_size ga
    have zb := blockBytes_size gb
    refine Ev.step (f := fun k => ((impl_DigestOf.f k 104 (blockBytes a)).bind fun bt430 => ((impl_DigestOf.f k 104 (blockBytes b)).bind fun bt432 => (if bt430.2 = true then (if bt432.2 = true then (if bt430.1.toList = bt432.1.toList then (some ((blockBytes a).toList != (blockBytes b).toList)) else (some false)) else (some false)) else (some false))))) (fun k => by rw [laws_FnAudit.j3, if_neg (by decide), if_pos rfl]) ?_
    refine Ev.bind (impl_digestOf 104 _ (by omega) (by omega) (by omega)) (Ev.bind (impl_digestOf 104 _ (by omega) (by omega) (by omega)) ?_)
    refine Ev_pos rfl (Ev_pos rfl (Ev_pos (str_inj.2 h1) (Ev_cast (Ev.now _) ?_)))
    simp [str_inj, h2]
theorem j2_ends {a b : List S47} (ha : allGood a = true) (hb : allGood b = true) : Ev (fun k => laws_FnAudit.j2 k a b (clashF a b).1 (clashF a b).2.1 (clashF a b).2.2 false) true := by
  have hsa := small2 ha
  have hsb := small2 hb
  have da := impl_lastDig a hsa.1 hsa.2
  have db := impl_lastDig b hsb.1 hsb.2
  obtain ⟨r, hr, er⟩ := sameChain_ends a b (by omega) hsa.2
  have key : goodC a = true → goodC b = true → a.length = b.length → lastD a = lastD b → ((clashF a b).2.2 = true ↔ a ≠ b) ∧ ((clashF a b).2.2 = true → ∃ x y, goodB x = true ∧ goodB y = true ∧ (clashF a b).1 = blockBytes x ∧ (clashF a b).2.1 = blockBytes y ∧ bdig x = bdig y ∧ blockBytes x ≠ blockBytes y) := by
    intro h1 h2 h3 h4
    have l1 : U.linked zero4 a = true := by unfold goodC at h1; simp at h1; exact h1.2
    have l2 : U.linked zero4 b = true := by unfold goodC at h2; simp at h2; exact h2.2
    obtain ⟨i1, i2⟩ := clash_iff a.reverse b.reverse (fun x hx => allGood_mem ha (List.mem_reverse.1 hx)) (fun x hx => allGood_mem hb (List.mem_reverse.1 hx)) (by simpa using h3) (by simpa using l1) (by simpa using l2) (by simpa using h4)
    unfold clashF
    rw [if_pos ⟨h1, h2, h3, h4⟩]
    exact ⟨i1.trans (by simp), i2⟩
  have wit : (clashF a b).2.2 = true → ∃ x y, goodB x = true ∧ goodB y = true ∧ (clashF a b).1 = blockBytes x ∧ (clashF a b).2.1 = blockBytes y ∧ bdig x = bdig y ∧ blockBytes x ≠ blockBytes y := by
    intro h
    by_cases hh : goodC a = true ∧ goodC b = true ∧ a.length = b.length ∧ lastD a = lastD b
    · exact (key hh.1 hh.2.1 hh.2.2.1 hh.2.2.2).2 h
    · unfold clashF at h; rw [if_neg hh] at h; simp at h
  have hj3 := j3_ends (clashF a b).1 (clashF a b).2.1 (clashF a b).2.2 wit
  refine Ev.step (f := fun k => ((impl_LastDigest.f k a).bind fun bt425 => ((impl_LastDigest.f k b).bind fun bt427 => (if bt425.2 = true then (if bt427.2 = true then (if (a.length : Int) = (b.length : Int) then (if bt425.1.toList = bt427.1.toList then ((laws_sameChain.f k a b).bind fun t429 => (laws_FnAudit.j3 k (clashF a b).1 (clashF a b).2.1 (clashF a b).2.2 ((clashF a b).2.2 != (!t429)))) else (laws_FnAudit.j3 k (clashF a b).1 (clashF a b).2.1 (clashF a b).2.2 ((clashF a b).2.2 != false))) else (laws_FnAudit.j3 k (clashF a b).1 (clashF a b).2.1 (clashF a b).2.2 ((clashF a b).2.2 != false))) else (laws_FnAudit.j3 k (clashF a b).1 (clashF a b).2.1 (clashF a b).2.2 false)) else (laws_FnAudit.j3 k (clashF a b).1 (clashF a b).2.1 (clashF a b).2.2 false))))) (fun k => by rw [laws_FnAudit.j2, if_neg (by decide)]) ?_
  refine Ev.bind da (Ev.bind db ?_)
  by_cases h1 : goodC a = true
  · by_cases h2 : goodC b = true
    · rw [if_pos h1, if_pos h2]
      refine Ev_pos rfl (Ev_pos rfl ?_)
      have hno : ¬ (a.length = b.length ∧ lastD a = lastD b) → ((clashF a b).2.2 != false) = false := by
        intro h
        unfold clashF
        rw [if_neg (fun x => h x.2.2)]
        rfl
      by_cases h3 : a.length = b.length
      · refine Ev_pos (by omega) ?_
        by_cases h4 : lastD a = lastD b
        · refine Ev_pos (str_inj.2 h4) (Ev.bind hr ?_)
          have hk := (key h1 h2 h3 h4).1
          have : ((clashF a b).2.2 != (!r)) = false := by
            cases hc : (clashF a b).2.2 <;> cases hrr : r <;> simp only [bne_self_eq_false, Bool.not_true, Bool.not_false] <;> try rfl
            · rw [hc] at hk
              have hne : a ≠ b := fun h => by rw [er.2 h] at hrr; cases hrr
              have := hk.2 hne
              cases this
            · rw [hc] at hk
              exact absurd (er.1 hrr) (hk.1 rfl)
          rw [this]
          exact hj3
        · refine Ev_neg (fun h => h4 (str_inj.1 h)) ?_
          rw [hno (fun h => h4 h.2)]
          exact hj3
      · refine Ev_neg (by omega) ?_
        rw [hno (fun h => h3 h.1)]
        exact hj3
    · rw [if_pos h1, if_neg h2]
      exact Ev_pos rfl (Ev_neg (by decide) hj3)
  · rw [if_neg h1]
    exact Ev_neg (by decide) hj3
theorem j1_ends {code : List Int} (hc : Bytes code) : Ev (fun k => laws_FnAudit.j1 k code false) true := by
  obtain ⟨x, y, e, hx, hy⟩ := drawClash hc
  have h2 := j2_ends hx hy
  refine Ev.step (f := fun k => ((spec_DrawClashIn.f k code).bind fun bt413 => ((impl_ClashIn.f k bt413.1 bt413.2).bind fun bt419 => ((spec_ClashIn.f k bt413.1 bt413.2).bind fun bt422 => (if (bt419.2.2 != bt422.2.2) = true then (laws_FnAudit.j2 k bt413.1 bt413.2 bt419.1 bt419.2.1 bt419.2.2 true) else (if bt419.1.toList = bt422.1.toList then (laws_FnAudit.j2 k bt413.1 bt413.2 bt419.1 bt419.2.1 bt419.2.2 (bt419.2.1.toList != bt422.2.1.toList)) else (laws_FnAudit.j2 k bt413.1 bt413.2 bt419.1 bt419.2.1 bt419.2.2 true))))))) (fun k => by rw [laws_FnAudit.j1, if_neg (by decide)]) ?_
  refine Ev.bind e (Ev.bind (impl_clash hx hy) (Ev.bind (spec_clash hx hy) ?_))
  refine Ev_neg (by simp) (Ev_pos rfl ?_)
  simp only [bne_self_eq_false]
  exact h2
theorem FnAudit : laws_FnAudit.Pure := by
  intro l0 l1 _ _ w0 _ _ w1
  have hc0 := bytes_wf w0
  have hc1 := bytes_wf w1
  apply Ev.rounds
  unfold laws_FnAudit.f
  refine Ev_ite (fun _ => Ev.now _) (fun _ => ?_)
  obtain ⟨last, l, e, h4, hg⟩ := drawAudit hc0
  have hs := small2 hg
  have hj := j1_ends hc1
  refine Ev.bind e (Ev.bind (impl_audit h4 hg) (Ev.bind (spec_audit h4 hg) (Ev.bind (impl_lastDig l hs.1 hs.2) ?_)))
  refine Ev_neg (by simp) ?_
  simp only [bne_self_eq_false]
  have hneg := auditR_neg l.reverse last
  rw [List.reverse_reverse] at hneg
  by_cases hcc : goodC l = true
  · rw [if_pos hcc]
    refine Ev.step (f := fun k => (if (l.length : Int) > 0 then laws_FnAudit.j1 k l1 ((auditR l.reverse last == (-1)) != ((lastD l).toList == last.toList)) else laws_FnAudit.j1 k l1 false)) (fun k => by rw [laws_FnAudit.j0, if_neg (by decide), if_pos rfl, if_pos rfl]) ?_
    refine Ev_ite (fun hp => ?_) (fun _ => hj)
    have lk : U.linked zero4 l = true := by unfold goodC at hcc; simp at hcc; exact hcc.2
    have hne : l.reverse ≠ [] := by intro h; rw [List.reverse_eq_nil_iff] at h; rw [h] at hp; simp at hp
    have : ((auditR l.reverse last == (-1)) != ((lastD l).toList == last.toList)) = false := by
      by_cases h : lastD l = last
      · rw [hneg.2 (.inr ⟨lk, h⟩), h]; simp
      · have h2 : auditR l.reverse last ≠ -1 := fun h3 => by
          rcases hneg.1 h3 with h3 | h3
          · exact hne h3
          · exact h h3.2
        have h3 : (auditR l.reverse last == (-1)) = false := by simpa using h2
        have h4 : ((lastD l).toList == last.toList) = false := by simpa [str_inj] using h
        rw [h3, h4]; rfl
    rw [this]
    exact hj
  · rw [if_neg hcc]
    refine Ev.step (f := fun k => (if (l.length : Int) > 0 then laws_FnAudit.j1 k l1 ((auditR l.reverse last == (-1)) != false) else laws_FnAudit.j1 k l1 false)) (fun k => by rw [laws_FnAudit.j0, if_neg (by decide), if_pos rfl]; simp only [Bool.false_eq_true, if_false]) ?_
    refine Ev_ite (fun hp => ?_) (fun _ => hj)
    have hne : l.reverse ≠ [] := by intro h; rw [List.reverse_eq_nil_iff] at h; rw [h] at hp; simp at hp
    have h2 : auditR l.reverse last ≠ -1 := fun h3 => by
      rcases hneg.1 h3 with h3 | h3
      · exact hne h3
      · exact hcc (by unfold goodC; simp [hg, h3.1])
    have h3 : (auditR l.reverse last == (-1)) = false := by simpa using h2
    rw [h3]
    exact hj
end Go.Proofs.Ytfhmkdempebmbaa.Pure
