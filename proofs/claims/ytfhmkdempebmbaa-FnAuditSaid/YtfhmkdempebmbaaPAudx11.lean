-- written by wip/pr_patch.py, a changed print
import Derived.Test.YtfhmkdempebmbaaPAudx0
import Derived.Test.YtfhmkdempebmbaaPAudx4
import Derived.Test.YtfhmkdempebmbaaPAudx6
import Derived.Test.YtfhmkdempebmbaaPAudx7
import Derived.Test.YtfhmkdempebmbaaPAudx8
import Derived.Test.YtfhmkdempebmbaaPAudx9
import Derived.Test.YtfhmkdempebmbaaPAudx10
namespace Go.Proofs.Ytfhmkdempebmbaa.PAud
open Go.RowKit Go.Proofs.YtfhmkdempebmbaaW.PrintWords Go.Proofs.YtfhmkdempebmbaaW.PrintLast Go.Proofs.YtfhmkdempebmbaaW.PrintMore
attribute [local go_sem] max2_int min2_int max_two min_two max_three min_three max_four min_four   -- for this text's walks alone
set_option linter.unusedVariables false
set_option linter.unusedSimpArgs false

/-! ### laws_FnAudit: function 3 -/
mutual
def laws_FnAudit.j0 : Nat → List Int → ByteArray → List (S47) → Int → Bool → ByteArray → Bool → Bool → Option (Bool)
  | 0, _, _, _, _, _, _, _, _ => none
  | k + 1, x1, x5, x6, x7, x8, x11, x12, x64 => if x64 = true then (some false) else (if x8 = true then (if (x6.length : Int) > 0 then (if x12 = true then (laws_FnAudit.j1 k x1 ((x7 == (-1)) != (x11.toList == x5.toList))) else (laws_FnAudit.j1 k x1 ((x7 == (-1)) != false))) else (laws_FnAudit.j1 k x1 false)) else (laws_FnAudit.j1 k x1 false))
def laws_FnAudit.j1 : Nat → List Int → Bool → Option (Bool)
  | 0, _, _ => none
  | k + 1, x1, x81 => if x81 = true then (some false) else ((spec_DrawClashIn.f k x1).bind fun bt413 => ((impl_ClashIn.f k bt413.1 bt413.2).bind fun bt419 => ((spec_ClashIn.f k bt413.1 bt413.2).bind fun bt422 => (if (bt419.2.2 != bt422.2.2) = true then (laws_FnAudit.j2 k bt413.1 bt413.2 bt419.1 bt419.2.1 bt419.2.2 true) else (if bt419.1.toList = bt422.1.toList then (laws_FnAudit.j2 k bt413.1 bt413.2 bt419.1 bt419.2.1 bt419.2.2 (bt419.2.1.toList != bt422.2.1.toList)) else (laws_FnAudit.j2 k bt413.1 bt413.2 bt419.1 bt419.2.1 bt419.2.2 true))))))
def laws_FnAudit.j2 : Nat → List (S47) → List (S47) → ByteArray → ByteArray → Bool → Bool → Option (Bool)
  | 0, _, _, _, _, _, _ => none
  | k + 1, x13, x14, x15, x16, x17, x113 => if x113 = true then (some false) else ((impl_LastDigest.f k x13).bind fun bt425 => ((impl_LastDigest.f k x14).bind fun bt427 => (if bt425.2 = true then (if bt427.2 = true then (if (x13.length : Int) = (x14.length : Int) then (if bt425.1.toList = bt427.1.toList then ((laws_sameChain.f k x13 x14).bind fun t429 => (laws_FnAudit.j3 k x15 x16 x17 (x17 != (!t429)))) else (laws_FnAudit.j3 k x15 x16 x17 (x17 != false))) else (laws_FnAudit.j3 k x15 x16 x17 (x17 != false))) else (laws_FnAudit.j3 k x15 x16 x17 false)) else (laws_FnAudit.j3 k x15 x16 x17 false))))
def laws_FnAudit.j3 : Nat → ByteArray → ByteArray → Bool → Bool → Option (Bool)
  | 0, _, _, _, _ => none
  | k + 1, x15, x16, x17, x147 => if x147 = true then (some false) else (if x17 = true then ((impl_DigestOf.f k 104 x15).bind fun bt430 => ((impl_DigestOf.f k 104 x16).bind fun bt432 => (if bt430.2 = true then (if bt432.2 = true then (if bt430.1.toList = bt432.1.toList then (some (x15.toList != x16.toList)) else (some false)) else (some false)) else (some false)))) else (some true))
end
def laws_FnAudit.f (k : Nat) (l0 : List Int) (l1 : List Int) : Option (Bool) := if (wrap64 ((l0.length : Int) + (l1.length : Int))) > 1048576 then (some true) else ((spec_DrawAuditChain.f k l0).bind fun bt403 => ((impl_AuditChain.f k bt403.1 bt403.2).bind fun bt407 => ((spec_AuditChain.f k bt403.1 bt403.2).bind fun bt409 => ((impl_LastDigest.f k bt403.2).bind fun bt411 => (if (bt407.2 != bt409.2) = true then (laws_FnAudit.j0 k l1 bt403.1 bt403.2 bt407.1 bt407.2 bt411.1 bt411.2 true) else (laws_FnAudit.j0 k l1 bt403.1 bt403.2 bt407.1 bt407.2 bt411.1 bt411.2 (bt407.1 != bt409.1)))))))
theorem laws_FnAudit.mono_l : ∀ k, (∀ y0 y1 y2 y3 y4 y5 y6 y7, LeO (laws_FnAudit.j0 k y0 y1 y2 y3 y4 y5 y6 y7) (laws_FnAudit.j0 (k + 1) y0 y1 y2 y3 y4 y5 y6 y7)) ∧ (∀ y0 y1, LeO (laws_FnAudit.j1 k y0 y1) (laws_FnAudit.j1 (k + 1) y0 y1)) ∧ (∀ y0 y1 y2 y3 y4 y5, LeO (laws_FnAudit.j2 k y0 y1 y2 y3 y4 y5) (laws_FnAudit.j2 (k + 1) y0 y1 y2 y3 y4 y5)) ∧ (∀ y0 y1 y2 y3, LeO (laws_FnAudit.j3 k y0 y1 y2 y3) (laws_FnAudit.j3 (k + 1) y0 y1 y2 y3))
  | 0 => ⟨fun _ _ _ _ _ _ _ _ r h => by simp [laws_FnAudit.j0] at h, fun _ _ r h => by simp [laws_FnAudit.j1] at h, fun _ _ _ _ _ _ r h => by simp [laws_FnAudit.j2] at h, fun _ _ _ _ r h => by simp [laws_FnAudit.j3] at h⟩
  | k + 1 => by
    obtain ⟨ih0, ih1, ih2, ih3⟩ := laws_FnAudit.mono_l k
    refine ⟨?_, ?_, ?_, ?_⟩
    · intro y0 y1 y2 y3 y4 y5 y6 y7
      unfold laws_FnAudit.j0
      repeat' first
      | (with_reducible exact ih0 _ _ _ _ _ _ _ _)
      | (with_reducible exact ih1 _ _)
      | (with_reducible exact ih2 _ _ _ _ _ _)
      | (with_reducible exact ih3 _ _ _ _)
      | (with_reducible exact impl_AuditChain.mono _ _ _)
      | (with_reducible exact impl_ClashIn.mono _ _ _)
      | (with_reducible exact impl_DigestOf.mono _ _ _)
      | (with_reducible exact impl_LastDigest.mono _ _)
      | (with_reducible exact laws_sameChain.mono _ _ _)
      | (with_reducible exact spec_AuditChain.mono _ _ _)
      | (with_reducible exact spec_ClashIn.mono _ _ _)
      | (with_reducible exact spec_DrawAuditChain.mono _ _)
      | (with_reducible exact spec_DrawClashIn.mono _ _)
      | (with_reducible exact LeO.refl _)
      | (with_reducible exact LeO.none _)
      | (with_reducible refine LeO.ite ?_ ?_)
      | (with_reducible refine LeO.bind ?_ (fun _ => ?_))
      | exact ih0 _ _ _ _ _ _ _ _
      | exact ih1 _ _
      | exact ih2 _ _ _ _ _ _
      | exact ih3 _ _ _ _
      | exact impl_AuditChain.mono _ _ _
      | exact impl_ClashIn.mono _ _ _
      | exact impl_DigestOf.mono _ _ _
      | exact impl_LastDigest.mono _ _
      | exact laws_sameChain.mono _ _ _
      | exact spec_AuditChain.mono _ _ _
      | exact spec_ClashIn.mono _ _ _
      | exact spec_DrawAuditChain.mono _ _
      | exact spec_DrawClashIn.mono _ _
      | exact LeO.none _
      | refine LeO.ite ?_ ?_
      | refine LeO.bind ?_ (fun _ => ?_)
    · intro y0 y1
      unfold laws_FnAudit.j1
      repeat' first
      | (with_reducible exact ih0 _ _ _ _ _ _ _ _)
      | (with_reducible exact ih1 _ _)
      | (with_reducible exact ih2 _ _ _ _ _ _)
      | (with_reducible exact ih3 _ _ _ _)
      | (with_reducible exact impl_AuditChain.mono _ _ _)
      | (with_reducible exact impl_ClashIn.mono _ _ _)
      | (with_reducible exact impl_DigestOf.mono _ _ _)
      | (with_reducible exact impl_LastDigest.mono _ _)
      | (with_reducible exact laws_sameChain.mono _ _ _)
      | (with_reducible exact spec_AuditChain.mono _ _ _)
      | (with_reducible exact spec_ClashIn.mono _ _ _)
      | (with_reducible exact spec_DrawAuditChain.mono _ _)
      | (with_reducible exact spec_DrawClashIn.mono _ _)
      | (with_reducible exact LeO.refl _)
      | (with_reducible exact LeO.none _)
      | (with_reducible refine LeO.ite ?_ ?_)
      | (with_reducible refine LeO.bind ?_ (fun _ => ?_))
      | exact ih0 _ _ _ _ _ _ _ _
      | exact ih1 _ _
      | exact ih2 _ _ _ _ _ _
      | exact ih3 _ _ _ _
      | exact impl_AuditChain.mono _ _ _
      | exact impl_ClashIn.mono _ _ _
      | exact impl_DigestOf.mono _ _ _
      | exact impl_LastDigest.mono _ _
      | exact laws_sameChain.mono _ _ _
      | exact spec_AuditChain.mono _ _ _
      | exact spec_ClashIn.mono _ _ _
      | exact spec_DrawAuditChain.mono _ _
      | exact spec_DrawClashIn.mono _ _
      | exact LeO.none _
      | refine LeO.ite ?_ ?_
      | refine LeO.bind ?_ (fun _ => ?_)
    · intro y0 y1 y2 y3 y4 y5
      unfold laws_FnAudit.j2
      repeat' first
      | (with_reducible exact ih0 _ _ _ _ _ _ _ _)
      | (with_reducible exact ih1 _ _)
      | (with_reducible exact ih2 _ _ _ _ _ _)
      | (with_reducible exact ih3 _ _ _ _)
      | (with_reducible exact impl_AuditChain.mono _ _ _)
      | (with_reducible exact impl_ClashIn.mono _ _ _)
      | (with_reducible exact impl_DigestOf.mono _ _ _)
      | (with_reducible exact impl_LastDigest.mono _ _)
      | (with_reducible exact laws_sameChain.mono _ _ _)
      | (with_reducible exact spec_AuditChain.mono _ _ _)
      | (with_reducible exact spec_ClashIn.mono _ _ _)
      | (with_reducible exact spec_DrawAuditChain.mono _ _)
      | (with_reducible exact spec_DrawClashIn.mono _ _)
      | (with_reducible exact LeO.refl _)
      | (with_reducible exact LeO.none _)
      | (with_reducible refine LeO.ite ?_ ?_)
      | (with_reducible refine LeO.bind ?_ (fun _ => ?_))
      | exact ih0 _ _ _ _ _ _ _ _
      | exact ih1 _ _
      | exact ih2 _ _ _ _ _ _
      | exact ih3 _ _ _ _
      | exact impl_AuditChain.mono _ _ _
      | exact impl_ClashIn.mono _ _ _
      | exact impl_DigestOf.mono _ _ _
      | exact impl_LastDigest.mono _ _
      | exact laws_sameChain.mono _ _ _
      | exact spec_AuditChain.mono _ _ _
      | exact spec_ClashIn.mono _ _ _
      | exact spec_DrawAuditChain.mono _ _
      | exact spec_DrawClashIn.mono _ _
      | exact LeO.none _
      | refine LeO.ite ?_ ?_
      | refine LeO.bind ?_ (fun _ => ?_)
    · intro y0 y1 y2 y3
      unfold laws_FnAudit.j3
      repeat' first
      | (with_reducible exact ih0 _ _ _ _ _ _ _ _)
      | (with_reducible exact ih1 _ _)
      | (with_reducible exact ih2 _ _ _ _ _ _)
      | (with_reducible exact ih3 _ _ _ _)
      | (with_reducible exact impl_AuditChain.mono _ _ _)
      | (with_reducible exact impl_ClashIn.mono _ _ _)
      | (with_reducible exact impl_DigestOf.mono _ _ _)
      | (with_reducible exact impl_LastDigest.mono _ _)
      | (with_reducible exact laws_sameChain.mono _ _ _)
      | (with_reducible exact spec_AuditChain.mono _ _ _)
      | (with_reducible exact spec_ClashIn.mono _ _ _)
      | (with_reducible exact spec_DrawAuditChain.mono _ _)
      | (with_reducible exact spec_DrawClashIn.mono _ _)
      | (with_reducible exact LeO.refl _)
      | (with_reducible exact LeO.none _)
      | (with_reducible refine LeO.ite ?_ ?_)
      | (with_reducible refine LeO.bind ?_ (fun _ => ?_))
      | exact ih0 _ _ _ _ _ _ _ _
      | exact ih1 _ _
      | exact ih2 _ _ _ _ _ _
      | exact ih3 _ _ _ _
      | exact impl_AuditChain.mono _ _ _
      | exact impl_ClashIn.mono _ _ _
      | exact impl_DigestOf.mono _ _ _
      | exact impl_LastDigest.mono _ _
      | exact laws_sameChain.mono _ _ _
      | exact spec_AuditChain.mono _ _ _
      | exact spec_ClashIn.mono _ _ _
      | exact spec_DrawAuditChain.mono _ _
      | exact spec_DrawClashIn.mono _ _
      | exact LeO.none _
      | refine LeO.ite ?_ ?_
      | refine LeO.bind ?_ (fun _ => ?_)
theorem laws_FnAudit.mono : ∀ a0 a1 k, LeO (laws_FnAudit.f k a0 a1) (laws_FnAudit.f (k + 1) a0 a1) := by
  intro a0 a1 k
  obtain ⟨ih0, ih1, ih2, ih3⟩ := laws_FnAudit.mono_l k
  unfold laws_FnAudit.f
  repeat' first
      | (with_reducible exact ih0 _ _ _ _ _ _ _ _)
      | (with_reducible exact ih1 _ _)
      | (with_reducible exact ih2 _ _ _ _ _ _)
      | (with_reducible exact ih3 _ _ _ _)
      | (with_reducible exact impl_AuditChain.mono _ _ _)
      | (with_reducible exact impl_ClashIn.mono _ _ _)
      | (with_reducible exact impl_DigestOf.mono _ _ _)
      | (with_reducible exact impl_LastDigest.mono _ _)
      | (with_reducible exact laws_sameChain.mono _ _ _)
      | (with_reducible exact spec_AuditChain.mono _ _ _)
      | (with_reducible exact spec_ClashIn.mono _ _ _)
      | (with_reducible exact spec_DrawAuditChain.mono _ _)
      | (with_reducible exact spec_DrawClashIn.mono _ _)
      | (with_reducible exact LeO.refl _)
      | (with_reducible exact LeO.none _)
      | (with_reducible refine LeO.ite ?_ ?_)
      | (with_reducible refine LeO.bind ?_ (fun _ => ?_))
      | exact ih0 _ _ _ _ _ _ _ _
      | exact ih1 _ _
      | exact ih2 _ _ _ _ _ _
      | exact ih3 _ _ _ _
      | exact impl_AuditChain.mono _ _ _
      | exact impl_ClashIn.mono _ _ _
      | exact impl_DigestOf.mono _ _ _
      | exact impl_LastDigest.mono _ _
      | exact laws_sameChain.mono _ _ _
      | exact spec_AuditChain.mono _ _ _
      | exact spec_ClashIn.mono _ _ _
      | exact spec_DrawAuditChain.mono _ _
      | exact spec_DrawClashIn.mono _ _
      | exact LeO.none _
      | refine LeO.ite ?_ ?_
      | refine LeO.bind ?_ (fun _ => ?_)
set_option maxHeartbeats 8000000 in
set_option maxRecDepth 100000 in
theorem laws_FnAudit.calls (k : Nat) (A0 : Option Addr) (c0 : Nat) (l0 : List Int) (A1 : Option Addr) (c1 : Nat) (l1 : List Int) (r : Bool) (w : World) (hr0 : Kd.C (Kd.int .u8) w A0 l0.length l0) (hc0 : l0.length ≤ c0) (hr1 : Kd.C (Kd.int .u8) w A1 l1.length l1) (hc1 : l1.length ≤ c1) (h : laws_FnAudit.f k l0 l1 = some r) :
    Calls Try.prog 3 #[.slice A0 l0.length c0, .slice A1 l1.length c1] w fun e w' => e = .returned (.bool r) ∧ Below w.heap.size w w' := by
  have HR0 := Aside0.mk hr0
  have HC0 := Aside0.mk hc0
  clear hr0 hc0
  have HR1 := Aside0.mk hr1
  have HC1 := Aside0.mk hc1
  clear hr1 hc1
  have HB := Aside0.mk (Below.refl w.heap.size w)
  have H : (if (wrap64 ((l0.length : Int) + (l1.length : Int))) > 1048576 then (some true) else ((spec_DrawAuditChain.f k l0).bind fun bt403 => ((impl_AuditChain.f k bt403.1 bt403.2).bind fun bt407 => ((spec_AuditChain.f k bt403.1 bt403.2).bind fun bt409 => ((impl_LastDigest.f k bt403.2).bind fun bt411 => (if (bt407.2 != bt409.2) = true then (laws_FnAudit.j0 k l1 bt403.1 bt403.2 bt407.1 bt407.2 bt411.1 bt411.2 true) else (laws_FnAudit.j0 k l1 bt403.1 bt403.2 bt407.1 bt407.2 bt411.1 bt411.2 (bt407.1 != bt409.1)))))))) = some r := h
  clear h
  by_cases c3 : (wrap64 ((l0.length : Int) + (l1.length : Int))) > 1048576
  · rw [if_pos c3] at H
    have c3b0 : decide (1048576 < (wrap64 ((l0.length : Int) + (l1.length : Int)))) = true := decide_eq_true c3
    clear c3
    obtain rfl := Option.some.inj H
    go_enter Try.func3, Try.ntmps3
    go_wp2
    go_ret
    exact ⟨by first | rfl | (simp [errW_none, errW_some] <;> rfl) | (simp [*, errW_none, errW_some] <;> rfl), by repeat (first | (with_reducible first | exact HB.out | apply below_alloc | apply pw_below_drewN | apply below_drew1) | exact HB.out)⟩
  · rw [if_neg c3] at H
    have c3b0 : decide (1048576 < (wrap64 ((l0.length : Int) + (l1.length : Int)))) = false := decide_eq_false c3
    clear c3
    replace H := Option.bind_eq_some_iff.mp H
    obtain ⟨⟨t403, t404⟩, A40, H⟩ := H
    replace H : ((impl_AuditChain.f k t403 t404).bind fun bt407 => ((spec_AuditChain.f k t403 t404).bind fun bt409 => ((impl_LastDigest.f k t404).bind fun bt411 => (if (bt407.2 != bt409.2) = true then (laws_FnAudit.j0 k l1 t403 t404 bt407.1 bt407.2 bt411.1 bt411.2 true) else (laws_FnAudit.j0 k l1 t403 t404 bt407.1 bt407.2 bt411.1 bt411.2 (bt407.1 != bt409.1)))))) = some r := H
    have A4 := Aside0.mk A40
    clear A40
    replace H := Option.bind_eq_some_iff.mp H
    obtain ⟨⟨t407, t408⟩, A50, H⟩ := H
    replace H : ((spec_AuditChain.f k t403 t404).bind fun bt409 => ((impl_LastDigest.f k t404).bind fun bt411 => (if (t408 != bt409.2) = true then (laws_FnAudit.j0 k l1 t403 t404 t407 t408 bt411.1 bt411.2 true) else (laws_FnAudit.j0 k l1 t403 t404 t407 t408 bt411.1 bt411.2 (t407 != bt409.1))))) = some r := H
    have A5 := Aside0.mk A50
    clear A50
    replace H := Option.bind_eq_some_iff.mp H
    obtain ⟨⟨t409, t410⟩, A60, H⟩ := H
    replace H : ((impl_LastDigest.f k t404).bind fun bt411 => (if (t408 != t410) = true then (laws_FnAudit.j0 k l1 t403 t404 t407 t408 bt411.1 bt411.2 true) else (laws_FnAudit.j0 k l1 t403 t404 t407 t408 bt411.1 bt411.2 (t407 != t409)))) = some r := H
    have A6 := Aside0.mk A60
    clear A60
    replace H := Option.bind_eq_some_iff.mp H
    obtain ⟨⟨t411, t412⟩, A70, H⟩ := H
    replace H : (if (t408 != t410) = true then (laws_FnAudit.j0 k l1 t403 t404 t407 t408 t411 t412 true) else (laws_FnAudit.j0 k l1 t403 t404 t407 t408 t411 t412 (t407 != t409))) = some r := H
    have A7 := Aside0.mk A70
    clear A70
    have HC8 := Aside0.mk H
    clear H
    go_enter Try.func3, Try.ntmps3
    go_upto_region 7 with (first | ((with_reducible refine gate_callee (f := 4) rfl ?_); refine goesL_ (some 37) rfl rfl Try.func4 (by kernel_rfl) rfl #[.slice A0 l0.length c0] rfl (by (try simp only [List.map_toArray, List.map_cons, List.map_nil]); first | done | rfl | (simp only [List.length_drop, List.length_take]; rfl)) ?_; (with_reducible refine (spec_DrawAuditChain.calls k _ _ l0 t403 t404 _ ?side1 ?side2 A4.out).mono ?_); (case side1 => repeat (first | exact HR0.out | (with_reducible refine Kd.C_alloc ?_ _) | (with_reducible refine Kd.C_drewN ?_ _) | (with_reducible refine Kd.C_drew ?_))); (case side2 => exact HC0.out); rintro e w9 ⟨v405, rfl, ho0, hb⟩; refine ⟨_, rfl, ?_⟩; have n0_ := Aside0.mk (Kd.N_lower (Kd.N_mono (ok' := fun k_ => True) ho0 (fun k_ hk_ => trivial)) (below_size (by repeat (first | (with_reducible first | exact HB.out | apply below_alloc | apply pw_below_drewN | apply below_drew1) | exact HB.out)))); have n1_ := Aside0.mk (below_step (by repeat (first | (with_reducible first | exact HB.out | apply below_alloc | apply pw_below_drewN | apply below_drew1) | exact HB.out)) hb); clear HB; have HO406 := n0_; have HB := n1_; clear n0_ n1_; (try clear hb); (try clear hb2); (try clear hk); (try clear hi); (try clear ho0); obtain ⟨Ao10, co10, eo10⟩ := Kd.N_slice HO406.out; subst eo10) | ((with_reducible refine gate_callee (f := 5) rfl ?_); refine goesL_ (some 43) rfl rfl Try.func5 (by kernel_rfl) rfl #[.string t403, .slice Ao10 t404.length co10] rfl (by (try simp only [List.map_toArray, List.map_cons, List.map_nil]); first | done | rfl | (simp only [List.length_drop, List.length_take]; rfl)) ?_; (with_reducible refine (impl_AuditChain.calls k t403 _ _ t404 t407 t408 _ ?side1 ?side2 A5.out).mono ?_); (case side1 => repeat (first | exact (Kd.N_reads' HO406.out).2.2 | (with_reducible refine Kd.C_alloc ?_ _) | (with_reducible refine Kd.C_drewN ?_ _) | (with_reducible refine Kd.C_drew ?_))); (case side2 => exact (Kd.N_reads' HO406.out).2.1); rintro e w11 ⟨rfl, hb⟩; refine ⟨_, rfl, ?_⟩; have n0_ := Aside0.mk (Kd.N_below (by (with_reducible repeat (first | apply Kd.N_alloc | apply Kd.N_drewN | apply Kd.N_drew)); exact HO406.out) hb); have n1_ := Aside0.mk (below_step (by repeat (first | (with_reducible first | exact HB.out | apply below_alloc | apply pw_below_drewN | apply below_drew1) | exact HB.out)) hb); clear HO406; clear HB; have HO406 := n0_; have HB := n1_; clear n0_ n1_; (try clear hb); (try clear hb2); (try clear hk); (try clear hi)) | ((with_reducible refine gate_callee (f := 6) rfl ?_); refine goesL_ (some 49) rfl rfl Try.func6 (by kernel_rfl) rfl #[.string t403, .slice Ao10 t404.length co10] rfl (by (try simp only [List.map_toArray, List.map_cons, List.map_nil]); first | done | rfl | (simp only [List.length_drop, List.length_take]; rfl)) ?_; (with_reducible refine (spec_AuditChain.calls k t403 _ _ t404 t409 t410 _ ?side1 ?side2 A6.out).mono ?_); (case side1 => repeat (first | exact (Kd.N_reads' HO406.out).2.2 | (with_reducible refine Kd.C_alloc ?_ _) | (with_reducible refine Kd.C_drewN ?_ _) | (with_reducible refine Kd.C_drew ?_))); (case side2 => exact (Kd.N_reads' HO406.out).2.1); rintro e w12 ⟨rfl, hb⟩; refine ⟨_, rfl, ?_⟩; have n0_ := Aside0.mk (Kd.N_below (by (with_reducible repeat (first | apply Kd.N_alloc | apply Kd.N_drewN | apply Kd.N_drew)); exact HO406.out) hb); have n1_ := Aside0.mk (below_step (by repeat (first | (with_reducible first | exact HB.out | apply below_alloc | apply pw_below_drewN | apply below_drew1) | exact HB.out)) hb); clear HO406; clear HB; have HO406 := n0_; have HB := n1_; clear n0_ n1_; (try clear hb); (try clear hb2); (try clear hk); (try clear hi)) | ((with_reducible refine gate_callee (f := 7) rfl ?_); refine goesL_ (some 54) rfl rfl Try.func7 (by kernel_rfl) rfl #[.slice Ao10 t404.length co10] rfl (by (try simp only [List.map_toArray, List.map_cons, List.map_nil]); first | done | rfl | (simp only [List.length_drop, List.length_take]; rfl)) ?_; (with_reducible refine (impl_LastDigest.calls k _ _ t404 t411 t412 _ ?side1 ?side2 A7.out).mono ?_); (case side1 => repeat (first | exact (Kd.N_reads' HO406.out).2.2 | (with_reducible refine Kd.C_alloc ?_ _) | (with_reducible refine Kd.C_drewN ?_ _) | (with_reducible refine Kd.C_drew ?_))); (case side2 => exact (Kd.N_reads' HO406.out).2.1); rintro e w13 ⟨rfl, hb⟩; refine ⟨_, rfl, ?_⟩; have n0_ := Aside0.mk (Kd.N_below (by (with_reducible repeat (first | apply Kd.N_alloc | apply Kd.N_drewN | apply Kd.N_drew)); exact HO406.out) hb); have n1_ := Aside0.mk (below_step (by repeat (first | (with_reducible first | exact HB.out | apply below_alloc | apply pw_below_drewN | apply below_drew1) | exact HB.out)) hb); clear HO406; clear HB; have HO406 := n0_; have HB := n1_; clear n0_ n1_; (try clear hb); (try clear hb2); (try clear hk); (try clear hi)))
    (try simp only [Act.put, List.setIfInBounds_toArray, List.set_cons_zero, List.set_cons_succ])
    go_cut [64] (fun v64 wc => ∃ (kq : Nat) (x64_7 : Bool), v64 = .bool x64_7 ∧ Aside0 (laws_FnAudit.j0 kq l1 t403 t404 t407 t408 t411 t412 x64_7 = some r) ∧ Aside0 (kq ≤ k) ∧ Aside0 (Kd.N k47 47 wc w.heap.size (fun _ => True) (.slice Ao10 t404.length co10) t404) ∧ Aside0 (Below w.heap.size w wc))
    case first =>
      have H := HC8.out
      clear HC8
      by_cases c14 : (t408 != t410) = true
      · rw [if_pos c14] at H
        have c14b0 : (t408 != t410) = true := c14
        (try (have c14b1 : decide (t408 = t410) = false := by simpa using c14))
        (try (have c14b2 : (t408 == t410) = false := by simpa using c14))
        (try (have c14b3 : ¬ (t408 = t410) := by simpa using c14))
        clear c14
        (first | rw [c14b0] | (simp only [i64_w, i32_w]; rw [c14b0]) | skip)
        have H' := Aside0.mk H
        clear H
        go_wp2
        go_meet
        case rel => exact ⟨_, (true), (by first | rfl | (simp; done) | (simp [*]; done)), H', ⟨by first | omega | exact Nat.le_refl _⟩, ⟨by (with_reducible repeat (first | apply Kd.N_alloc | apply Kd.N_drewN | apply Kd.N_drew)); exact HO406.out⟩, ⟨by repeat (first | (with_reducible first | exact HB.out | apply below_alloc | apply pw_below_drewN | apply below_drew1) | exact HB.out)⟩⟩
      · rw [if_neg c14] at H
        have c14b0 : (t408 != t410) = false := by simpa using c14
        (try (have c14b1 : decide (t408 = t410) = true := by simpa using c14))
        (try (have c14b2 : (t408 == t410) = true := by simpa using c14))
        clear c14
        (first | rw [c14b0] | (simp only [i64_w, i32_w]; rw [c14b0]) | skip)
        have H' := Aside0.mk H
        clear H
        go_wp2
        go_meet
        case rel => exact ⟨_, ((t407 != t409)), (by first | rfl | (simp; done) | (simp [*]; done)), H', ⟨by first | omega | exact Nat.le_refl _⟩, ⟨by (with_reducible repeat (first | apply Kd.N_alloc | apply Kd.N_drewN | apply Kd.N_drew)); exact HO406.out⟩, ⟨by repeat (first | (with_reducible first | exact HB.out | apply below_alloc | apply pw_below_drewN | apply below_drew1) | exact HB.out)⟩⟩
    case rest =>
      clear HC8
      try clear c1
      try clear p2
      try clear c3
      try clear c3b0
      try clear c4
      try clear c5
      try clear c6
      try clear p6
      try clear c7
      try clear c14
      try clear c14b0
      try clear c14b1
      try clear c14b2
      obtain ⟨kq, x64_7, rfl, HA, HJ7, HO_6, HB⟩ := hcut
      cases kq with
      | zero => exact absurd HA.out (by simp [laws_FnAudit.j0])
      | succ kj7 =>
        have H := HA.out
        clear HA
        simp only [laws_FnAudit.j0] at H
        by_cases c15 : x64_7 = true
        · subst c15
          have H1 : (some false) = some r := by rw [if_pos rfl] at H; exact H
          clear H
          have H := H1
          clear H1
          obtain rfl := Option.some.inj H
          go_wp2
          go_ret
          exact ⟨by first | rfl | (simp [errW_none, errW_some] <;> rfl) | (simp [*, errW_none, errW_some] <;> rfl), by repeat (first | (with_reducible first | exact HB.out | apply below_alloc | apply pw_below_drewN | apply below_drew1) | exact HB.out)⟩
        · replace c15 := Bool.eq_false_iff.mpr c15
          subst c15
          have H1 : (if t408 = true then (if (t404.length : Int) > 0 then (if t412 = true then (laws_FnAudit.j1 kj7 l1 ((t407 == (-1)) != (t411.toList == t403.toList))) else (laws_FnAudit.j1 kj7 l1 ((t407 == (-1)) != false))) else (laws_FnAudit.j1 kj7 l1 false)) else (laws_FnAudit.j1 kj7 l1 false)) = some r := by rw [if_neg (show ¬ (false = true) by decide)] at H; exact H
          clear H
          have H := H1
          clear H1
          have HC16 := Aside0.mk H
          clear H
          go_upto_region 9 with (fail)
          go_cut [81] (fun v81 wc => ∃ (kq : Nat) (x81_15 : Bool), v81 = .bool x81_15 ∧ Aside0 (laws_FnAudit.j1 kq l1 x81_15 = some r) ∧ Aside0 (kq ≤ kj7) ∧ Aside0 (Below w.heap.size w wc))
          case first =>
            have H := HC16.out
            clear HC16
            by_cases c17 : t408 = true
            · subst c17
              have H1 : (if (t404.length : Int) > 0 then (if t412 = true then (laws_FnAudit.j1 kj7 l1 ((t407 == (-1)) != (t411.toList == t403.toList))) else (laws_FnAudit.j1 kj7 l1 ((t407 == (-1)) != false))) else (laws_FnAudit.j1 kj7 l1 false)) = some r := by rw [if_pos rfl] at H; exact H
              clear H
              have H := H1
              clear H1
              by_cases c18 : (t404.length : Int) > 0
              · rw [if_pos c18] at H
                have c18b0 : decide (0 < (t404.length : Int)) = true := decide_eq_true c18
                have c18b1 : decide (0 < t404.length) = true := decide_eq_true (by omega)
                clear c18
                (first | rw [c18b0] | (simp only [i64_w, i32_w]; rw [c18b0]) | skip)
                by_cases c19 : t412 = true
                · subst c19
                  have H1 : (laws_FnAudit.j1 kj7 l1 ((t407 == (-1)) != (t411.toList == t403.toList))) = some r := by rw [if_pos rfl] at H; exact H
                  clear H
                  have H := H1
                  clear H1
                  have H' := Aside0.mk H
                  clear H
                  go_wp2
                  go_meet
                  case rel => exact ⟨_, (((t407 == (-1)) != (t411.toList == t403.toList))), (by first | rfl | (simp; done) | (simp [*]; done)), H', ⟨by have := HJ7.out; first | omega | exact Nat.le_refl _⟩, ⟨by repeat (first | (with_reducible first | exact HB.out | apply below_alloc | apply pw_below_drewN | apply below_drew1) | exact HB.out)⟩⟩
                · replace c19 := Bool.eq_false_iff.mpr c19
                  subst c19
                  have H1 : (laws_FnAudit.j1 kj7 l1 ((t407 == (-1)) != false)) = some r := by rw [if_neg (show ¬ (false = true) by decide)] at H; exact H
                  clear H
                  have H := H1
                  clear H1
                  have H' := Aside0.mk H
                  clear H
                  go_wp2
                  go_meet
                  case rel => exact ⟨_, (((t407 == (-1)) != false)), (by first | rfl | (simp; done) | (simp [*]; done)), H', ⟨by have := HJ7.out; first | omega | exact Nat.le_refl _⟩, ⟨by repeat (first | (with_reducible first | exact HB.out | apply below_alloc | apply pw_below_drewN | apply below_drew1) | exact HB.out)⟩⟩
              · rw [if_neg c18] at H
                have c18b0 : decide (0 < (t404.length : Int)) = false := decide_eq_false c18
                have c18b1 : decide (0 < t404.length) = false := decide_eq_false (by omega)
                clear c18
                (first | rw [c18b0] | (simp only [i64_w, i32_w]; rw [c18b0]) | skip)
                have H' := Aside0.mk H
                clear H
                go_wp2
                go_meet
                case rel => exact ⟨_, (false), (by first | rfl | (simp; done) | (simp [*]; done)), H', ⟨by have := HJ7.out; first | omega | exact Nat.le_refl _⟩, ⟨by repeat (first | (with_reducible first | exact HB.out | apply below_alloc | apply pw_below_drewN | apply below_drew1) | exact HB.out)⟩⟩
            · replace c17 := Bool.eq_false_iff.mpr c17
              subst c17
              have H1 : (laws_FnAudit.j1 kj7 l1 false) = some r := by rw [if_neg (show ¬ (false = true) by decide)] at H; exact H
              clear H
              have H := H1
              clear H1
              have H' := Aside0.mk H
              clear H
              go_wp2
              go_meet
              case rel => exact ⟨_, (false), (by first | rfl | (simp; done) | (simp [*]; done)), H', ⟨by have := HJ7.out; first | omega | exact Nat.le_refl _⟩, ⟨by repeat (first | (with_reducible first | exact HB.out | apply below_alloc | apply pw_below_drewN | apply below_drew1) | exact HB.out)⟩⟩
          case rest =>
            clear HC16
            try clear c1
            try clear p2
            try clear c3
            try clear c3b0
            try clear c4
            try clear c5
            try clear c6
            try clear p6
            try clear c7
            try clear c14
            try clear c14b0
            try clear c14b1
            try clear c14b2
            try clear c15
            try clear c17
            try clear c18
            try clear c18b0
            try clear c18b1
            try clear c19
            try clear p2
            try clear p6
            obtain ⟨kq, x81_15, rfl, HA, HJ15, HB⟩ := hcut
            cases kq with
            | zero => exact absurd HA.out (by simp [laws_FnAudit.j1])
            | succ kj15 =>
              have H := HA.out
              clear HA
              simp only [laws_FnAudit.j1] at H
              by_cases c20 : x81_15 = true
              · subst c20
                have H1 : (some false) = some r := by rw [if_pos rfl] at H; exact H
                clear H
                have H := H1
                clear H1
                obtain rfl := Option.some.inj H
                go_wp2
                go_ret
                exact ⟨by first | rfl | (simp [errW_none, errW_some] <;> rfl) | (simp [*, errW_none, errW_some] <;> rfl), by repeat (first | (with_reducible first | exact HB.out | apply below_alloc | apply pw_below_drewN | apply below_drew1) | exact HB.out)⟩
              · replace c20 := Bool.eq_false_iff.mpr c20
                subst c20
                have H1 : ((spec_DrawClashIn.f kj15 l1).bind fun bt413 => ((impl_ClashIn.f kj15 bt413.1 bt413.2).bind fun bt419 => ((spec_ClashIn.f kj15 bt413.1 bt413.2).bind fun bt422 => (if (bt419.2.2 != bt422.2.2) = true then (laws_FnAudit.j2 kj15 bt413.1 bt413.2 bt419.1 bt419.2.1 bt419.2.2 true) else (if bt419.1.toList = bt422.1.toList then (laws_FnAudit.j2 kj15 bt413.1 bt413.2 bt419.1 bt419.2.1 bt419.2.2 (bt419.2.1.toList != bt422.2.1.toList)) else (laws_FnAudit.j2 kj15 bt413.1 bt413.2 bt419.1 bt419.2.1 bt419.2.2 true)))))) = some r := by rw [if_neg (show ¬ (false = true) by decide)] at H; exact H
                clear H
                have H := H1
                clear H1
                replace H := Option.bind_eq_some_iff.mp H
                obtain ⟨⟨t413, t416⟩, A210, H⟩ := H
                replace H : ((impl_ClashIn.f kj15 t413 t416).bind fun bt419 => ((spec_ClashIn.f kj15 t413 t416).bind fun bt422 => (if (bt419.2.2 != bt422.2.2) = true then (laws_FnAudit.j2 kj15 t413 t416 bt419.1 bt419.2.1 bt419.2.2 true) else (if bt419.1.toList = bt422.1.toList then (laws_FnAudit.j2 kj15 t413 t416 bt419.1 bt419.2.1 bt419.2.2 (bt419.2.1.toList != bt422.2.1.toList)) else (laws_FnAudit.j2 kj15 t413 t416 bt419.1 bt419.2.1 bt419.2.2 true))))) = some r := H
                have A21 := Aside0.mk A210
                clear A210
                replace H := Option.bind_eq_some_iff.mp H
                obtain ⟨⟨t419, t420, t421⟩, A220, H⟩ := H
                replace H : ((spec_ClashIn.f kj15 t413 t416).bind fun bt422 => (if (t421 != bt422.2.2) = true then (laws_FnAudit.j2 kj15 t413 t416 t419 t420 t421 true) else (if t419.toList = bt422.1.toList then (laws_FnAudit.j2 kj15 t413 t416 t419 t420 t421 (t420.toList != bt422.2.1.toList)) else (laws_FnAudit.j2 kj15 t413 t416 t419 t420 t421 true)))) = some r := H
                have A22 := Aside0.mk A220
                clear A220
                replace H := Option.bind_eq_some_iff.mp H
                obtain ⟨⟨t422, t423, t424⟩, A230, H⟩ := H
                replace H : (if (t421 != t424) = true then (laws_FnAudit.j2 kj15 t413 t416 t419 t420 t421 true) else (if t419.toList = t422.toList then (laws_FnAudit.j2 kj15 t413 t416 t419 t420 t421 (t420.toList != t423.toList)) else (laws_FnAudit.j2 kj15 t413 t416 t419 t420 t421 true))) = some r := H
                have A23 := Aside0.mk A230
                clear A230
                have HC24 := Aside0.mk H
                clear H
                go_upto_region 14 with (first | ((with_reducible refine gate_callee (f := 8) rfl ?_); refine goesL_ (some 84) rfl rfl Try.func8 (by kernel_rfl) rfl #[.slice A1 l1.length c1] rfl (by (try simp only [List.map_toArray, List.map_cons, List.map_nil]); first | done | rfl | (simp only [List.length_drop, List.length_take]; rfl)) ?_; (with_reducible refine (spec_DrawClashIn.calls kj15 _ _ l1 t413 t416 _ ?side1 ?side2 A21.out).mono ?_); (case side1 => repeat (first | exact (Kd.C_below HR1.out HB.out) | (with_reducible refine Kd.C_alloc ?_ _) | (with_reducible refine Kd.C_drewN ?_ _) | (with_reducible refine Kd.C_drew ?_))); (case side2 => exact HC1.out); rintro e w25 ⟨v414, v417, rfl, ho0, ho1, hb⟩; refine ⟨_, rfl, ?_⟩; have n0_ := Aside0.mk (Kd.V_lower (Kd.V_mono (ok' := fun k_ => True) ho0 (fun k_ hk_ => trivial)) (below_size (by repeat (first | (with_reducible first | exact HB.out | apply below_alloc | apply pw_below_drewN | apply below_drew1) | exact HB.out)))); have n1_ := Aside0.mk (Kd.V_lower (Kd.V_mono (ok' := fun k_ => True) ho1 (fun k_ hk_ => trivial)) (below_size (by repeat (first | (with_reducible first | exact HB.out | apply below_alloc | apply pw_below_drewN | apply below_drew1) | exact HB.out)))); have n2_ := Aside0.mk (below_step (by repeat (first | (with_reducible first | exact HB.out | apply below_alloc | apply pw_below_drewN | apply below_drew1) | exact HB.out)) hb); clear HB; have HO415 := n0_; have HO418 := n1_; have HB := n2_; clear n0_ n1_ n2_; (try clear hb); (try clear hb2); (try clear hk); (try clear hi); (try clear ho0); (try clear ho1); obtain ⟨Ao26, co26, eo26⟩ := Kd.V_slice HO415.out; subst eo26; obtain ⟨Ao27, co27, eo27⟩ := Kd.V_slice HO418.out; subst eo27) | ((with_reducible refine gate_callee (f := 9) rfl ?_); refine goesL_ (some 90) rfl rfl Try.func9 (by kernel_rfl) rfl #[.slice Ao26 t413.length co26, .slice Ao27 t416.length co27] rfl (by (try simp only [List.map_toArray, List.map_cons, List.map_nil]); first | done | rfl | (simp only [List.length_drop, List.length_take]; rfl)) ?_; (with_reducible refine (impl_ClashIn.calls kj15 _ _ t413 _ _ t416 t419 t420 t421 _ ?side1 ?side2 ?side3 ?side4 A22.out).mono ?_); (case side1 => repeat (first | exact (Kd.V_reads' HO415.out).2.2 | (with_reducible refine Kd.C_alloc ?_ _) | (with_reducible refine Kd.C_drewN ?_ _) | (with_reducible refine Kd.C_drew ?_))); (case side2 => exact (Kd.V_reads' HO415.out).2.1); (case side3 => repeat (first | exact (Kd.V_reads' HO418.out).2.2 | (with_reducible refine Kd.C_alloc ?_ _) | (with_reducible refine Kd.C_drewN ?_ _) | (with_reducible refine Kd.C_drew ?_))); (case side4 => exact (Kd.V_reads' HO418.out).2.1); rintro e w28 ⟨rfl, hb⟩; refine ⟨_, rfl, ?_⟩; have n0_ := Aside0.mk (Kd.V_below (by (with_reducible repeat (first | apply Kd.V_alloc | apply Kd.V_drewN | apply Kd.V_drew)); exact HO415.out) hb); have n1_ := Aside0.mk (Kd.V_below (by (with_reducible repeat (first | apply Kd.V_alloc | apply Kd.V_drewN | apply Kd.V_drew)); exact HO418.out) hb); have n2_ := Aside0.mk (below_step (by repeat (first | (with_reducible first | exact HB.out | apply below_alloc | apply pw_below_drewN | apply below_drew1) | exact HB.out)) hb); clear HO415; clear HO418; clear HB; have HO415 := n0_; have HO418 := n1_; have HB := n2_; clear n0_ n1_ n2_; (try clear hb); (try clear hb2); (try clear hk); (try clear hi)) | ((with_reducible refine gate_callee (f := 10) rfl ?_); refine goesL_ (some 97) rfl rfl Try.func10 (by kernel_rfl) rfl #[.slice Ao26 t413.length co26, .slice Ao27 t416.length co27] rfl (by (try simp only [List.map_toArray, List.map_cons, List.map_nil]); first | done | rfl | (simp only [List.length_drop, List.length_take]; rfl)) ?_; (with_reducible refine (spec_ClashIn.calls kj15 _ _ t413 _ _ t416 t422 t423 t424 _ ?side1 ?side2 ?side3 ?side4 A23.out).mono ?_); (case side1 => repeat (first | exact (Kd.V_reads' HO415.out).2.2 | (with_reducible refine Kd.C_alloc ?_ _) | (with_reducible refine Kd.C_drewN ?_ _) | (with_reducible refine Kd.C_drew ?_))); (case side2 => exact (Kd.V_reads' HO415.out).2.1); (case side3 => repeat (first | exact (Kd.V_reads' HO418.out).2.2 | (with_reducible refine Kd.C_alloc ?_ _) | (with_reducible refine Kd.C_drewN ?_ _) | (with_reducible refine Kd.C_drew ?_))); (case side4 => exact (Kd.V_reads' HO418.out).2.1); rintro e w29 ⟨rfl, hb⟩; refine ⟨_, rfl, ?_⟩; have n0_ := Aside0.mk (Kd.V_below (by (with_reducible repeat (first | apply Kd.V_alloc | apply Kd.V_drewN | apply Kd.V_drew)); exact HO415.out) hb); have n1_ := Aside0.mk (Kd.V_below (by (with_reducible repeat (first | apply Kd.V_alloc | apply Kd.V_drewN | apply Kd.V_drew)); exact HO418.out) hb); have n2_ := Aside0.mk (below_step (by repeat (first | (with_reducible first | exact HB.out | apply below_alloc | apply pw_below_drewN | apply below_drew1) | exact HB.out)) hb); clear HO415; clear HO418; clear HB; have HO415 := n0_; have HO418 := n1_; have HB := n2_; clear n0_ n1_ n2_; (try clear hb); (try clear hb2); (try clear hk); (try clear hi)))
                (try simp only [Act.put, List.setIfInBounds_toArray, List.set_cons_zero, List.set_cons_succ])
                go_cut [113] (fun v113 wc => ∃ (kq : Nat) (x113_23 : Bool), v113 = .bool x113_23 ∧ Aside0 (laws_FnAudit.j2 kq t413 t416 t419 t420 t421 x113_23 = some r) ∧ Aside0 (kq ≤ kj15) ∧ Aside0 (Kd.V k47 47 wc w.heap.size (fun _ => True) (.slice Ao26 t413.length co26) t413) ∧ Aside0 (Kd.V k47 47 wc w.heap.size (fun _ => True) (.slice Ao27 t416.length co27) t416) ∧ Aside0 (Below w.heap.size w wc))
                case first =>
                  have H := HC24.out
                  clear HC24
                  by_cases c30 : (t421 != t424) = true
                  · rw [if_pos c30] at H
                    have c30b0 : (t421 != t424) = true := c30
                    (try (have c30b1 : decide (t421 = t424) = false := by simpa using c30))
                    (try (have c30b2 : (t421 == t424) = false := by simpa using c30))
                    (try (have c30b3 : ¬ (t421 = t424) := by simpa using c30))
                    clear c30
                    (first | rw [c30b0] | (simp only [i64_w, i32_w]; rw [c30b0]) | skip)
                    have H' := Aside0.mk H
                    clear H
                    go_wp2
                    go_meet
                    case rel => exact ⟨_, (true), (by first | rfl | (simp; done) | (simp [*]; done)), H', ⟨by have := HJ7.out; have := HJ15.out; first | omega | exact Nat.le_refl _⟩, ⟨by (with_reducible repeat (first | apply Kd.V_alloc | apply Kd.V_drewN | apply Kd.V_drew)); exact HO415.out⟩, ⟨by (with_reducible repeat (first | apply Kd.V_alloc | apply Kd.V_drewN | apply Kd.V_drew)); exact HO418.out⟩, ⟨by repeat (first | (with_reducible first | exact HB.out | apply below_alloc | apply pw_below_drewN | apply below_drew1) | exact HB.out)⟩⟩
                  · rw [if_neg c30] at H
                    have c30b0 : (t421 != t424) = false := by simpa using c30
                    (try (have c30b1 : decide (t421 = t424) = true := by simpa using c30))
                    (try (have c30b2 : (t421 == t424) = true := by simpa using c30))
                    clear c30
                    (first | rw [c30b0] | (simp only [i64_w, i32_w]; rw [c30b0]) | skip)
                    by_cases c31 : t419.toList = t422.toList
                    · rw [if_pos c31] at H
                      have c31b0 : (t419.toList == t422.toList) = true := beq_iff_eq.mpr c31
                      have c31b1 : (t419.toList != t422.toList) = false := bne_eq_false_iff_eq.mpr c31
                      clear c31
                      have H' := Aside0.mk H
                      clear H
                      go_wp2
                      go_meet
                      case rel => exact ⟨_, ((t420.toList != t423.toList)), (by first | rfl | (simp; done) | (simp [*]; done)), H', ⟨by have := HJ7.out; have := HJ15.out; first | omega | exact Nat.le_refl _⟩, ⟨by (with_reducible repeat (first | apply Kd.V_alloc | apply Kd.V_drewN | apply Kd.V_drew)); exact HO415.out⟩, ⟨by (with_reducible repeat (first | apply Kd.V_alloc | apply Kd.V_drewN | apply Kd.V_drew)); exact HO418.out⟩, ⟨by repeat (first | (with_reducible first | exact HB.out | apply below_alloc | apply pw_below_drewN | apply below_drew1) | exact HB.out)⟩⟩
                    · rw [if_neg c31] at H
                      have c31b0 : (t419.toList == t422.toList) = false := beq_eq_false_iff_ne.mpr c31
                      have c31b1 : (t419.toList != t422.toList) = true := bne_iff_ne.mpr c31
                      have H' := Aside0.mk H
                      clear H
                      go_wp2
                      go_meet
                      case rel => exact ⟨_, (true), (by first | rfl | (simp; done) | (simp [*]; done)), H', ⟨by have := HJ7.out; have := HJ15.out; first | omega | exact Nat.le_refl _⟩, ⟨by (with_reducible repeat (first | apply Kd.V_alloc | apply Kd.V_drewN | apply Kd.V_drew)); exact HO415.out⟩, ⟨by (with_reducible repeat (first | apply Kd.V_alloc | apply Kd.V_drewN | apply Kd.V_drew)); exact HO418.out⟩, ⟨by repeat (first | (with_reducible first | exact HB.out | apply below_alloc | apply pw_below_drewN | apply below_drew1) | exact HB.out)⟩⟩
                case rest =>
                  clear HC24
                  try clear c1
                  try clear c2
                  try clear p2
                  try clear c3
                  try clear c3b0
                  try clear c4
                  try clear c5
                  try clear c6
                  try clear p6
                  try clear c7
                  try clear c8
                  try clear c9
                  try clear c10
                  try clear c14
                  try clear c14b0
                  try clear c14b1
                  try clear c14b2
                  try clear c15
                  try clear c17
                  try clear c18
                  try clear c18b0
                  try clear c18b1
                  try clear c19
                  try clear c20
                  try clear c30
                  try clear c30b0
                  try clear c30b1
                  try clear c30b2
                  try clear c31
                  try clear c31b0
                  try clear c31b1
                  try clear p2
                  try clear p6
                  obtain ⟨kq, x113_23, rfl, HA, HJ23, HO_13, HO_14, HB⟩ := hcut
                  cases kq with
                  | zero => exact absurd HA.out (by simp [laws_FnAudit.j2])
                  | succ kj23 =>
                    have H := HA.out
                    clear HA
                    simp only [laws_FnAudit.j2] at H
                    by_cases c32 : x113_23 = true
                    · subst c32
                      have H1 : (some false) = some r := by rw [if_pos rfl] at H; exact H
                      clear H
                      have H := H1
                      clear H1
                      obtain rfl := Option.some.inj H
                      go_wp2
                      go_ret
                      exact ⟨by first | rfl | (simp [errW_none, errW_some] <;> rfl) | (simp [*, errW_none, errW_some] <;> rfl), by repeat (first | (with_reducible first | exact HB.out | apply below_alloc | apply pw_below_drewN | apply below_drew1) | exact HB.out)⟩
                    · replace c32 := Bool.eq_false_iff.mpr c32
                      subst c32
                      have H1 : ((impl_LastDigest.f kj23 t413).bind fun bt425 => ((impl_LastDigest.f kj23 t416).bind fun bt427 => (if bt425.2 = true then (if bt427.2 = true then (if (t413.length : Int) = (t416.length : Int) then (if bt425.1.toList = bt427.1.toList then ((laws_sameChain.f kj23 t413 t416).bind fun t429 => (laws_FnAudit.j3 kj23 t419 t420 t421 (t421 != (!t429)))) else (laws_FnAudit.j3 kj23 t419 t420 t421 (t421 != false))) else (laws_FnAudit.j3 kj23 t419 t420 t421 (t421 != false))) else (laws_FnAudit.j3 kj23 t419 t420 t421 false)) else (laws_FnAudit.j3 kj23 t419 t420 t421 false)))) = some r := by rw [if_neg (show ¬ (false = true) by decide)] at H; exact H
                      clear H
                      have H := H1
                      clear H1
                      replace H := Option.bind_eq_some_iff.mp H
                      obtain ⟨⟨t425, t426⟩, A330, H⟩ := H
                      replace H : ((impl_LastDigest.f kj23 t416).bind fun bt427 => (if t426 = true then (if bt427.2 = true then (if (t413.length : Int) = (t416.length : Int) then (if t425.toList = bt427.1.toList then ((laws_sameChain.f kj23 t413 t416).bind fun t429 => (laws_FnAudit.j3 kj23 t419 t420 t421 (t421 != (!t429)))) else (laws_FnAudit.j3 kj23 t419 t420 t421 (t421 != false))) else (laws_FnAudit.j3 kj23 t419 t420 t421 (t421 != false))) else (laws_FnAudit.j3 kj23 t419 t420 t421 false)) else (laws_FnAudit.j3 kj23 t419 t420 t421 false))) = some r := H
                      have A33 := Aside0.mk A330
                      clear A330
                      replace H := Option.bind_eq_some_iff.mp H
                      obtain ⟨⟨t427, t428⟩, A340, H⟩ := H
                      replace H : (if t426 = true then (if t428 = true then (if (t413.length : Int) = (t416.length : Int) then (if t425.toList = t427.toList then ((laws_sameChain.f kj23 t413 t416).bind fun t429 => (laws_FnAudit.j3 kj23 t419 t420 t421 (t421 != (!t429)))) else (laws_FnAudit.j3 kj23 t419 t420 t421 (t421 != false))) else (laws_FnAudit.j3 kj23 t419 t420 t421 (t421 != false))) else (laws_FnAudit.j3 kj23 t419 t420 t421 false)) else (laws_FnAudit.j3 kj23 t419 t420 t421 false)) = some r := H
                      have A34 := Aside0.mk A340
                      clear A340
                      have HC35 := Aside0.mk H
                      clear H
                      go_upto_region 18 with (first | ((with_reducible refine gate_callee (f := 7) rfl ?_); refine goesL_ (some 116) rfl rfl Try.func7 (by kernel_rfl) rfl #[.slice Ao26 t413.length co26] rfl (by (try simp only [List.map_toArray, List.map_cons, List.map_nil]); first | done | rfl | (simp only [List.length_drop, List.length_take]; rfl)) ?_; (with_reducible refine (impl_LastDigest.calls kj23 _ _ t413 t425 t426 _ ?side1 ?side2 A33.out).mono ?_); (case side1 => repeat (first | exact (Kd.V_reads' HO_13.out).2.2 | (with_reducible refine Kd.C_alloc ?_ _) | (with_reducible refine Kd.C_drewN ?_ _) | (with_reducible refine Kd.C_drew ?_))); (case side2 => exact (Kd.V_reads' HO_13.out).2.1); rintro e w36 ⟨rfl, hb⟩; refine ⟨_, rfl, ?_⟩; have n0_ := Aside0.mk (Kd.V_below (by (with_reducible repeat (first | apply Kd.V_alloc | apply Kd.V_drewN | apply Kd.V_drew)); exact HO_13.out) hb); have n1_ := Aside0.mk (Kd.V_below (by (with_reducible repeat (first | apply Kd.V_alloc | apply Kd.V_drewN | apply Kd.V_drew)); exact HO_14.out) hb); have n2_ := Aside0.mk (below_step (by repeat (first | (with_reducible first | exact HB.out | apply below_alloc | apply pw_below_drewN | apply below_drew1) | exact HB.out)) hb); clear HO_13; clear HO_14; clear HB; have HO_13 := n0_; have HO_14 := n1_; have HB := n2_; clear n0_ n1_ n2_; (try clear hb); (try clear hb2); (try clear hk); (try clear hi)) | ((with_reducible refine gate_callee (f := 7) rfl ?_); refine goesL_ (some 121) rfl rfl Try.func7 (by kernel_rfl) rfl #[.slice Ao27 t416.length co27] rfl (by (try simp only [List.map_toArray, List.map_cons, List.map_nil]); first | done | rfl | (simp only [List.length_drop, List.length_take]; rfl)) ?_; (with_reducible refine (impl_LastDigest.calls kj23 _ _ t416 t427 t428 _ ?side1 ?side2 A34.out).mono ?_); (case side1 => repeat (first | exact (Kd.V_reads' HO_14.out).2.2 | (with_reducible refine Kd.C_alloc ?_ _) | (with_reducible refine Kd.C_drewN ?_ _) | (with_reducible refine Kd.C_drew ?_))); (case side2 => exact (Kd.V_reads' HO_14.out).2.1); rintro e w37 ⟨rfl, hb⟩; refine ⟨_, rfl, ?_⟩; have n0_ := Aside0.mk (Kd.V_below (by (with_reducible repeat (first | apply Kd.V_alloc | apply Kd.V_drewN | apply Kd.V_drew)); exact HO_13.out) hb); have n1_ := Aside0.mk (Kd.V_below (by (with_reducible repeat (first | apply Kd.V_alloc | apply Kd.V_drewN | apply Kd.V_drew)); exact HO_14.out) hb); have n2_ := Aside0.mk (below_step (by repeat (first | (with_reducible first | exact HB.out | apply below_alloc | apply pw_below_drewN | apply below_drew1) | exact HB.out)) hb); clear HO_13; clear HO_14; clear HB; have HO_13 := n0_; have HO_14 := n1_; have HB := n2_; clear n0_ n1_ n2_; (try clear hb); (try clear hb2); (try clear hk); (try clear hi)))
                      (try simp only [Act.put, List.setIfInBounds_toArray, List.set_cons_zero, List.set_cons_succ])
                      go_cut [147] (fun v147 wc => ∃ (kq : Nat) (x147_34 : Bool), v147 = .bool x147_34 ∧ Aside0 (laws_FnAudit.j3 kq t419 t420 t421 x147_34 = some r) ∧ Aside0 (kq ≤ kj23) ∧ Aside0 (Below w.heap.size w wc))
                      case first =>
                        have H := HC35.out
                        clear HC35
                        by_cases c38 : t426 = true
                        · subst c38
                          have H1 : (if t428 = true then (if (t413.length : Int) = (t416.length : Int) then (if t425.toList = t427.toList then ((laws_sameChain.f kj23 t413 t416).bind fun t429 => (laws_FnAudit.j3 kj23 t419 t420 t421 (t421 != (!t429)))) else (laws_FnAudit.j3 kj23 t419 t420 t421 (t421 != false))) else (laws_FnAudit.j3 kj23 t419 t420 t421 (t421 != false))) else (laws_FnAudit.j3 kj23 t419 t420 t421 false)) = some r := by rw [if_pos rfl] at H; exact H
                          clear H
                          have H := H1
                          clear H1
                          by_cases c39 : t428 = true
                          · subst c39
                            have H1 : (if (t413.length : Int) = (t416.length : Int) then (if t425.toList = t427.toList then ((laws_sameChain.f kj23 t413 t416).bind fun t429 => (laws_FnAudit.j3 kj23 t419 t420 t421 (t421 != (!t429)))) else (laws_FnAudit.j3 kj23 t419 t420 t421 (t421 != false))) else (laws_FnAudit.j3 kj23 t419 t420 t421 (t421 != false))) = some r := by rw [if_pos rfl] at H; exact H
                            clear H
                            have H := H1
                            clear H1
                            by_cases c40 : (t413.length : Int) = (t416.length : Int)
                            · rw [if_pos c40] at H
                              have c40b0 : ((t413.length : Int) == (t416.length : Int)) = true := beq_iff_eq.mpr c40
                              have c40b1 : ((t413.length : Int) != (t416.length : Int)) = false := bne_eq_false_iff_eq.mpr c40
                              have c40b2 : (t413.length == t416.length) = true := by first | simpa using c40 | (simp at c40 ⊢; omega)
                              clear c40
                              (first | rw [c40b0] | (simp only [i64_w, i32_w]; rw [c40b0]) | skip)
                              by_cases c41 : t425.toList = t427.toList
                              · rw [if_pos c41] at H
                                have c41b0 : (t425.toList == t427.toList) = true := beq_iff_eq.mpr c41
                                have c41b1 : (t425.toList != t427.toList) = false := bne_eq_false_iff_eq.mpr c41
                                clear c41
                                replace H := Option.bind_eq_some_iff.mp H
                                obtain ⟨t429, A420, H⟩ := H
                                replace H : (laws_FnAudit.j3 kj23 t419 t420 t421 (t421 != (!t429))) = some r := H
                                have A42 := Aside0.mk A420
                                clear A420
                                have H' := Aside0.mk H
                                clear H
                                go_wp2_with (first | (go_at_call 11; (with_reducible refine (laws_sameChain.calls kj23 _ _ t413 _ _ t416 t429 _ ?side1 ?side2 ?side3 ?side4 A42.out).mono ?_); (case side1 => repeat (first | exact (Kd.V_reads' HO_13.out).2.2 | (with_reducible refine Kd.C_alloc ?_ _) | (with_reducible refine Kd.C_drewN ?_ _) | (with_reducible refine Kd.C_drew ?_))); (case side2 => exact (Kd.V_reads' HO_13.out).2.1); (case side3 => repeat (first | exact (Kd.V_reads' HO_14.out).2.2 | (with_reducible refine Kd.C_alloc ?_ _) | (with_reducible refine Kd.C_drewN ?_ _) | (with_reducible refine Kd.C_drew ?_))); (case side4 => exact (Kd.V_reads' HO_14.out).2.1); rintro e w43 ⟨rfl, hb⟩; have n0_ := Aside0.mk (Kd.V_below (by (with_reducible repeat (first | apply Kd.V_alloc | apply Kd.V_drewN | apply Kd.V_drew)); exact HO_13.out) hb); have n1_ := Aside0.mk (Kd.V_below (by (with_reducible repeat (first | apply Kd.V_alloc | apply Kd.V_drewN | apply Kd.V_drew)); exact HO_14.out) hb); have n2_ := Aside0.mk (below_step (by repeat (first | (with_reducible first | exact HB.out | apply below_alloc | apply pw_below_drewN | apply below_drew1) | exact HB.out)) hb); clear HO_13; clear HO_14; clear HB; have HO_13 := n0_; have HO_14 := n1_; have HB := n2_; clear n0_ n1_ n2_; (try clear hb); (try clear hb2); (try clear hk); (try clear hi)))
                                go_meet
                                case rel => exact ⟨_, ((t421 != (!t429))), (by first | rfl | (simp; done) | (simp [*]; done)), H', ⟨by have := HJ7.out; have := HJ15.out; have := HJ23.out; first | omega | exact Nat.le_refl _⟩, ⟨by repeat (first | (with_reducible first | exact HB.out | apply below_alloc | apply pw_below_drewN | apply below_drew1) | exact HB.out)⟩⟩
                              · rw [if_neg c41] at H
                                have c41b0 : (t425.toList == t427.toList) = false := beq_eq_false_iff_ne.mpr c41
                                have c41b1 : (t425.toList != t427.toList) = true := bne_iff_ne.mpr c41
                                have H' := Aside0.mk H
                                clear H
                                go_wp2
                                go_meet
                                case rel => exact ⟨_, ((t421 != false)), (by first | rfl | (simp; done) | (simp [*]; done)), H', ⟨by have := HJ7.out; have := HJ15.out; have := HJ23.out; first | omega | exact Nat.le_refl _⟩, ⟨by repeat (first | (with_reducible first | exact HB.out | apply below_alloc | apply pw_below_drewN | apply below_drew1) | exact HB.out)⟩⟩
                            · rw [if_neg c40] at H
                              have c40b0 : ((t413.length : Int) == (t416.length : Int)) = false := beq_eq_false_iff_ne.mpr c40
                              have c40b1 : ((t413.length : Int) != (t416.length : Int)) = true := bne_iff_ne.mpr c40
                              have c40b2 : (t413.length == t416.length) = false := by first | simpa using c40 | (simp at c40 ⊢; omega)
                              (first | rw [c40b0] | (simp only [i64_w, i32_w]; rw [c40b0]) | skip)
                              have H' := Aside0.mk H
                              clear H
                              go_wp2
                              go_meet
                              case rel => exact ⟨_, ((t421 != false)), (by first | rfl | (simp; done) | (simp [*]; done)), H', ⟨by have := HJ7.out; have := HJ15.out; have := HJ23.out; first | omega | exact Nat.le_refl _⟩, ⟨by repeat (first | (with_reducible first | exact HB.out | apply below_alloc | apply pw_below_drewN | apply below_drew1) | exact HB.out)⟩⟩
                          · replace c39 := Bool.eq_false_iff.mpr c39
                            subst c39
                            have H1 : (laws_FnAudit.j3 kj23 t419 t420 t421 false) = some r := by rw [if_neg (show ¬ (false = true) by decide)] at H; exact H
                            clear H
                            have H := H1
                            clear H1
                            have H' := Aside0.mk H
                            clear H
                            go_wp2
                            go_meet
                            case rel => exact ⟨_, (false), (by first | rfl | (simp; done) | (simp [*]; done)), H', ⟨by have := HJ7.out; have := HJ15.out; have := HJ23.out; first | omega | exact Nat.le_refl _⟩, ⟨by repeat (first | (with_reducible first | exact HB.out | apply below_alloc | apply pw_below_drewN | apply below_drew1) | exact HB.out)⟩⟩
                        · replace c38 := Bool.eq_false_iff.mpr c38
                          subst c38
                          have H1 : (laws_FnAudit.j3 kj23 t419 t420 t421 false) = some r := by rw [if_neg (show ¬ (false = true) by decide)] at H; exact H
                          clear H
                          have H := H1
                          clear H1
                          have H' := Aside0.mk H
                          clear H
                          go_wp2
                          go_meet
                          case rel => exact ⟨_, (false), (by first | rfl | (simp; done) | (simp [*]; done)), H', ⟨by have := HJ7.out; have := HJ15.out; have := HJ23.out; first | omega | exact Nat.le_refl _⟩, ⟨by repeat (first | (with_reducible first | exact HB.out | apply below_alloc | apply pw_below_drewN | apply below_drew1) | exact HB.out)⟩⟩
                      case rest =>
                        clear HC35
                        try clear c1
                        try clear c2
                        try clear p2
                        try clear c3
                        try clear c3b0
                        try clear c4
                        try clear c5
                        try clear c6
                        try clear p6
                        try clear c7
                        try clear c8
                        try clear c9
                        try clear c10
                        try clear c14
                        try clear c14b0
                        try clear c14b1
                        try clear c14b2
                        try clear c15
                        try clear c17
                        try clear c18
                        try clear c18b0
                        try clear c18b1
                        try clear c19
                        try clear c20
                        try clear c30
                        try clear c30b0
                        try clear c30b1
                        try clear c30b2
                        try clear c31
                        try clear c31b0
                        try clear c31b1
                        try clear c32
                        try clear c38
                        try clear c39
                        try clear c40
                        try clear c40b0
                        try clear c40b1
                        try clear c40b2
                        try clear c41
                        try clear c41b0
                        try clear c41b1
                        try clear p2
                        try clear p6
                        obtain ⟨kq, x147_34, rfl, HA, HJ34, HB⟩ := hcut
                        cases kq with
                        | zero => exact absurd HA.out (by simp [laws_FnAudit.j3])
                        | succ kj34 =>
                          have H := HA.out
                          clear HA
                          simp only [laws_FnAudit.j3] at H
                          by_cases c44 : x147_34 = true
                          · subst c44
                            have H1 : (some false) = some r := by rw [if_pos rfl] at H; exact H
                            clear H
                            have H := H1
                            clear H1
                            obtain rfl := Option.some.inj H
                            go_wp2
                            go_ret
                            exact ⟨by first | rfl | (simp [errW_none, errW_some] <;> rfl) | (simp [*, errW_none, errW_some] <;> rfl), by repeat (first | (with_reducible first | exact HB.out | apply below_alloc | apply pw_below_drewN | apply below_drew1) | exact HB.out)⟩
                          · replace c44 := Bool.eq_false_iff.mpr c44
                            subst c44
                            have H1 : (if t421 = true then ((impl_DigestOf.f kj34 104 t419).bind fun bt430 => ((impl_DigestOf.f kj34 104 t420).bind fun bt432 => (if bt430.2 = true then (if bt432.2 = true then (if bt430.1.toList = bt432.1.toList then (some (t419.toList != t420.toList)) else (some false)) else (some false)) else (some false)))) else (some true)) = some r := by rw [if_neg (show ¬ (false = true) by decide)] at H; exact H
                            clear H
                            have H := H1
                            clear H1
                            by_cases c45 : t421 = true
                            · subst c45
                              have H1 : ((impl_DigestOf.f kj34 104 t419).bind fun bt430 => ((impl_DigestOf.f kj34 104 t420).bind fun bt432 => (if bt430.2 = true then (if bt432.2 = true then (if bt430.1.toList = bt432.1.toList then (some (t419.toList != t420.toList)) else (some false)) else (some false)) else (some false)))) = some r := by rw [if_pos rfl] at H; exact H
                              clear H
                              have H := H1
                              clear H1
                              replace H := Option.bind_eq_some_iff.mp H
                              obtain ⟨⟨t430, t431⟩, A460, H⟩ := H
                              replace H : ((impl_DigestOf.f kj34 104 t420).bind fun bt432 => (if t431 = true then (if bt432.2 = true then (if t430.toList = bt432.1.toList then (some (t419.toList != t420.toList)) else (some false)) else (some false)) else (some false))) = some r := H
                              have A46 := Aside0.mk A460
                              clear A460
                              replace H := Option.bind_eq_some_iff.mp H
                              obtain ⟨⟨t432, t433⟩, A470, H⟩ := H
                              replace H : (if t431 = true then (if t433 = true then (if t430.toList = t432.toList then (some (t419.toList != t420.toList)) else (some false)) else (some false)) else (some false)) = some r := H
                              have A47 := Aside0.mk A470
                              clear A470
                              by_cases c48 : t431 = true
                              · subst c48
                                have H1 : (if t433 = true then (if t430.toList = t432.toList then (some (t419.toList != t420.toList)) else (some false)) else (some false)) = some r := by rw [if_pos rfl] at H; exact H
                                clear H
                                have H := H1
                                clear H1
                                by_cases c49 : t433 = true
                                · subst c49
                                  have H1 : (if t430.toList = t432.toList then (some (t419.toList != t420.toList)) else (some false)) = some r := by rw [if_pos rfl] at H; exact H
                                  clear H
                                  have H := H1
                                  clear H1
                                  by_cases c50 : t430.toList = t432.toList
                                  · rw [if_pos c50] at H
                                    have c50b0 : (t430.toList == t432.toList) = true := beq_iff_eq.mpr c50
                                    have c50b1 : (t430.toList != t432.toList) = false := bne_eq_false_iff_eq.mpr c50
                                    clear c50
                                    obtain rfl := Option.some.inj H
                                    go_wp2_with (first | ((with_reducible refine gate_callee (f := 12) rfl ?_); refine goesL_ (some 151) rfl rfl Try.func12 (by kernel_rfl) rfl #[.int .u8 104, .string t419] rfl (by (try simp only [List.map_toArray, List.map_cons, List.map_nil]); first | done | rfl | (simp only [List.length_drop, List.length_take]; rfl)) ?_; (with_reducible refine (impl_DigestOf.calls kj34 104 t419 t430 true _ A46.out).mono ?_); rintro e w51 ⟨rfl, hb⟩; refine ⟨_, rfl, ?_⟩; have n0_ := Aside0.mk (below_step (by repeat (first | (with_reducible first | exact HB.out | apply below_alloc | apply pw_below_drewN | apply below_drew1) | exact HB.out)) hb); clear HB; have HB := n0_; clear n0_; (try clear hb); (try clear hb2); (try clear hk); (try clear hi)) | ((with_reducible refine gate_callee (f := 12) rfl ?_); refine goesL_ (some 156) rfl rfl Try.func12 (by kernel_rfl) rfl #[.int .u8 104, .string t420] rfl (by (try simp only [List.map_toArray, List.map_cons, List.map_nil]); first | done | rfl | (simp only [List.length_drop, List.length_take]; rfl)) ?_; (with_reducible refine (impl_DigestOf.calls kj34 104 t420 t432 true _ A47.out).mono ?_); rintro e w52 ⟨rfl, hb⟩; refine ⟨_, rfl, ?_⟩; have n0_ := Aside0.mk (below_step (by repeat (first | (with_reducible first | exact HB.out | apply below_alloc | apply pw_below_drewN | apply below_drew1) | exact HB.out)) hb); clear HB; have HB := n0_; clear n0_; (try clear hb); (try clear hb2); (try clear hk); (try clear hi)))
                                    go_ret
                                    exact ⟨by first | rfl | (simp [errW_none, errW_some] <;> rfl) | (simp [*, errW_none, errW_some] <;> rfl), by repeat (first | (with_reducible first | exact HB.out | apply below_alloc | apply pw_below_drewN | apply below_drew1) | exact HB.out)⟩
                                  · rw [if_neg c50] at H
                                    have c50b0 : (t430.toList == t432.toList) = false := beq_eq_false_iff_ne.mpr c50
                                    have c50b1 : (t430.toList != t432.toList) = true := bne_iff_ne.mpr c50
                                    obtain rfl := Option.some.inj H
                                    go_wp2_with (first | ((with_reducible refine gate_callee (f := 12) rfl ?_); refine goesL_ (some 151) rfl rfl Try.func12 (by kernel_rfl) rfl #[.int .u8 104, .string t419] rfl (by (try simp only [List.map_toArray, List.map_cons, List.map_nil]); first | done | rfl | (simp only [List.length_drop, List.length_take]; rfl)) ?_; (with_reducible refine (impl_DigestOf.calls kj34 104 t419 t430 true _ A46.out).mono ?_); rintro e w53 ⟨rfl, hb⟩; refine ⟨_, rfl, ?_⟩; have n0_ := Aside0.mk (below_step (by repeat (first | (with_reducible first | exact HB.out | apply below_alloc | apply pw_below_drewN | apply below_drew1) | exact HB.out)) hb); clear HB; have HB := n0_; clear n0_; (try clear hb); (try clear hb2); (try clear hk); (try clear hi)) | ((with_reducible refine gate_callee (f := 12) rfl ?_); refine goesL_ (some 156) rfl rfl Try.func12 (by kernel_rfl) rfl #[.int .u8 104, .string t420] rfl (by (try simp only [List.map_toArray, List.map_cons, List.map_nil]); first | done | rfl | (simp only [List.length_drop, List.length_take]; rfl)) ?_; (with_reducible refine (impl_DigestOf.calls kj34 104 t420 t432 true _ A47.out).mono ?_); rintro e w54 ⟨rfl, hb⟩; refine ⟨_, rfl, ?_⟩; have n0_ := Aside0.mk (below_step (by repeat (first | (with_reducible first | exact HB.out | apply below_alloc | apply pw_below_drewN | apply below_drew1) | exact HB.out)) hb); clear HB; have HB := n0_; clear n0_; (try clear hb); (try clear hb2); (try clear hk); (try clear hi)))
                                    go_ret
                                    exact ⟨by first | rfl | (simp [errW_none, errW_some] <;> rfl) | (simp [*, errW_none, errW_some] <;> rfl), by repeat (first | (with_reducible first | exact HB.out | apply below_alloc | apply pw_below_drewN | apply below_drew1) | exact HB.out)⟩
                                · replace c49 := Bool.eq_false_iff.mpr c49
                                  subst c49
                                  have H1 : (some false) = some r := by rw [if_neg (show ¬ (false = true) by decide)] at H; exact H
                                  clear H
                                  have H := H1
                                  clear H1
                                  obtain rfl := Option.some.inj H
                                  go_wp2_with (first | ((with_reducible refine gate_callee (f := 12) rfl ?_); refine goesL_ (some 151) rfl rfl Try.func12 (by kernel_rfl) rfl #[.int .u8 104, .string t419] rfl (by (try simp only [List.map_toArray, List.map_cons, List.map_nil]); first | done | rfl | (simp only [List.length_drop, List.length_take]; rfl)) ?_; (with_reducible refine (impl_DigestOf.calls kj34 104 t419 t430 true _ A46.out).mono ?_); rintro e w55 ⟨rfl, hb⟩; refine ⟨_, rfl, ?_⟩; have n0_ := Aside0.mk (below_step (by repeat (first | (with_reducible first | exact HB.out | apply below_alloc | apply pw_below_drewN | apply below_drew1) | exact HB.out)) hb); clear HB; have HB := n0_; clear n0_; (try clear hb); (try clear hb2); (try clear hk); (try clear hi)) | ((with_reducible refine gate_callee (f := 12) rfl ?_); refine goesL_ (some 156) rfl rfl Try.func12 (by kernel_rfl) rfl #[.int .u8 104, .string t420] rfl (by (try simp only [List.map_toArray, List.map_cons, List.map_nil]); first | done | rfl | (simp only [List.length_drop, List.length_take]; rfl)) ?_; (with_reducible refine (impl_DigestOf.calls kj34 104 t420 t432 false _ A47.out).mono ?_); rintro e w56 ⟨rfl, hb⟩; refine ⟨_, rfl, ?_⟩; have n0_ := Aside0.mk (below_step (by repeat (first | (with_reducible first | exact HB.out | apply below_alloc | apply pw_below_drewN | apply below_drew1) | exact HB.out)) hb); clear HB; have HB := n0_; clear n0_; (try clear hb); (try clear hb2); (try clear hk); (try clear hi)))
                                  go_ret
                                  exact ⟨by first | rfl | (simp [errW_none, errW_some] <;> rfl) | (simp [*, errW_none, errW_some] <;> rfl), by repeat (first | (with_reducible first | exact HB.out | apply below_alloc | apply pw_below_drewN | apply below_drew1) | exact HB.out)⟩
                              · replace c48 := Bool.eq_false_iff.mpr c48
                                subst c48
                                have H1 : (some false) = some r := by rw [if_neg (show ¬ (false = true) by decide)] at H; exact H
                                clear H
                                have H := H1
                                clear H1
                                obtain rfl := Option.some.inj H
                                go_wp2_with (first | ((with_reducible refine gate_callee (f := 12) rfl ?_); refine goesL_ (some 151) rfl rfl Try.func12 (by kernel_rfl) rfl #[.int .u8 104, .string t419] rfl (by (try simp only [List.map_toArray, List.map_cons, List.map_nil]); first | done | rfl | (simp only [List.length_drop, List.length_take]; rfl)) ?_; (with_reducible refine (impl_DigestOf.calls kj34 104 t419 t430 false _ A46.out).mono ?_); rintro e w57 ⟨rfl, hb⟩; refine ⟨_, rfl, ?_⟩; have n0_ := Aside0.mk (below_step (by repeat (first | (with_reducible first | exact HB.out | apply below_alloc | apply pw_below_drewN | apply below_drew1) | exact HB.out)) hb); clear HB; have HB := n0_; clear n0_; (try clear hb); (try clear hb2); (try clear hk); (try clear hi)) | ((with_reducible refine gate_callee (f := 12) rfl ?_); refine goesL_ (some 156) rfl rfl Try.func12 (by kernel_rfl) rfl #[.int .u8 104, .string t420] rfl (by (try simp only [List.map_toArray, List.map_cons, List.map_nil]); first | done | rfl | (simp only [List.length_drop, List.length_take]; rfl)) ?_; (with_reducible refine (impl_DigestOf.calls kj34 104 t420 t432 t433 _ A47.out).mono ?_); rintro e w58 ⟨rfl, hb⟩; refine ⟨_, rfl, ?_⟩; have n0_ := Aside0.mk (below_step (by repeat (first | (with_reducible first | exact HB.out | apply below_alloc | apply pw_below_drewN | apply below_drew1) | exact HB.out)) hb); clear HB; have HB := n0_; clear n0_; (try clear hb); (try clear hb2); (try clear hk); (try clear hi)))
                                go_ret
                                exact ⟨by first | rfl | (simp [errW_none, errW_some] <;> rfl) | (simp [*, errW_none, errW_some] <;> rfl), by repeat (first | (with_reducible first | exact HB.out | apply below_alloc | apply pw_below_drewN | apply below_drew1) | exact HB.out)⟩
                            · replace c45 := Bool.eq_false_iff.mpr c45
                              subst c45
                              have H1 : (some true) = some r := by rw [if_neg (show ¬ (false = true) by decide)] at H; exact H
                              clear H
                              have H := H1
                              clear H1
                              obtain rfl := Option.some.inj H
                              go_wp2
                              go_ret
                              exact ⟨by first | rfl | (simp [errW_none, errW_some] <;> rfl) | (simp [*, errW_none, errW_some] <;> rfl), by repeat (first | (with_reducible first | exact HB.out | apply below_alloc | apply pw_below_drewN | apply below_drew1) | exact HB.out)⟩

/-- THE ONE PURE STATEMENT of laws_FnAudit: yours. -/
def laws_FnAudit.Pure : Prop := ∀ (l0 : List Int) (l1 : List Int), l0.length ≤ maxLen → l0.length * 1 ≤ 140737488351232 → (∀ x ∈ l0, (Lit.int .u8 x).wf = true) → l1.length ≤ maxLen → l1.length * 1 ≤ 140737488351232 → (∀ x ∈ l1, (Lit.int .u8 x).wf = true) → ∃ k, laws_FnAudit.f k l0 l1 = some true
theorem laws_FnAudit.walk (P : laws_FnAudit.Pure) (a0 : Option Addr) (len0 cap0 : Nat) (z0 : List Int) (a1 : Option Addr) (len1 cap1 : Nat) (z1 : List Int) (w : World) (w0 : (a0 = none ∧ len0 = 0 ∧ cap0 = 0 ∧ z0 = []) ∨ ∃ x, a0 = some x ∧ len0 ≤ cap0 ∧ cap0 ≤ maxLen ∧ z0.length = cap0 ∧ (∀ i, i < z0.length → w.cell? (x.add i) = some (.int .u8 (z0.getD i 0))) ∧ ∀ n ∈ z0, (Lit.int .u8 n).wf = true) (y0 : len0 * 1 ≤ 140737488351232) (w1 : (a1 = none ∧ len1 = 0 ∧ cap1 = 0 ∧ z1 = []) ∨ ∃ x, a1 = some x ∧ len1 ≤ cap1 ∧ cap1 ≤ maxLen ∧ z1.length = cap1 ∧ (∀ i, i < z1.length → w.cell? (x.add i) = some (.int .u8 (z1.getD i 0))) ∧ ∀ n ∈ z1, (Lit.int .u8 n).wf = true) (y1 : len1 * 1 ≤ 140737488351232) :
    Calls Try.prog 3 #[.slice a0 len0 cap0, .slice a1 len1 cap1] w fun e w' => e = .returned (.bool true) ∧ Below w.heap.size w w' := by
  obtain ⟨l0, rfl, hr0, hm0, hw0, hc0⟩ := ReadsInt.ofRowC w0
  obtain ⟨l1, rfl, hr1, hm1, hw1, hc1⟩ := ReadsInt.ofRowC w1
  obtain ⟨k, h⟩ := P l0 l1 hm0 y0 hw0 hm1 y1 hw1
  refine (laws_FnAudit.calls k _ _ l0 _ _ l1 true w (Kd.C_of_reads (d := (0 : Int)) (h1 := fun _ => rfl) hr0) hc0 (Kd.C_of_reads (d := (0 : Int)) (h1 := fun _ => rfl) hr1) hc1 h).mono ?_
  rintro e w' ⟨rfl, hd⟩
  exact ⟨rfl, hd⟩

end Go.Proofs.Ytfhmkdempebmbaa.PAud
