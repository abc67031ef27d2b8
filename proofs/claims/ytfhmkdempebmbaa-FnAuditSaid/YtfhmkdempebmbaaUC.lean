/- The reader of choices: it answers at every place, with a number in its range. -/
import Derived.Test.YtfhmkdempebmbaaUA
import Derived.Test.YtfhmkdempebmbaaPAudx1
namespace Go.Proofs.Ytfhmkdempebmbaa.U
open Go.RowKit Go.Proofs.YtfhmkdempebmbaaW.PrintWords Go.Proofs.Ytfhmkdempebmbaa.PAud

def Bytes (code : List Int) : Prop := ∀ x ∈ code, 0 ≤ x ∧ x ≤ 255
theorem bytes_wf {l : List Int} (h : ∀ x ∈ l, (Lit.int .u8 x).wf = true) : Bytes l := by
  intro x hx
  have := h x hx
  simp [Lit.wf, IntKind.min, IntKind.max, IntKind.signed, IntKind.bits] at this
  omega
theorem Bytes.rd {code : List Int} (hc : Bytes code) (i : Int) : 0 ≤ rd code i ∧ rd code i ≤ 255 := by
  unfold Go.Proofs.YtfhmkdempebmbaaW.PrintWords.rd
  rw [List.getD_eq_getElem?_getD]
  by_cases h : i.toNat < code.length
  · rw [List.getElem?_eq_getElem h]; exact hc _ (List.getElem_mem h)
  · rw [List.getElem?_eq_none (by omega)]; simp
theorem wrapu64 (n : Int) : IntKind.u64.wrap n = n % 18446744073709551616 := by simp [IntKind.wrap, IntKind.bits, IntKind.signed]
theorem low8 (n : Int) : 0 ≤ Go.bits .and .u64 (IntKind.u64.wrap n / 1099511627776) 255 ∧ Go.bits .and .u64 (IntKind.u64.wrap n / 1099511627776) 255 ≤ 255 := by
  rw [wrapu64]
  have h := bits_mask .u64 64 (by decide) (fun n h0 h1 => by rw [wrapu64]; omega) 8 (by decide) (n % 18446744073709551616 / 1099511627776) (by omega) (by omega)
  rw [show ((2 : Int) ^ 8 - 1) = 255 by decide, show ((2 : Int) ^ 8) = 256 by decide] at h
  rw [h]
  omega
theorem next_ends {code : List Int} (hc : Bytes code) {a : Int} (h0 : 0 ≤ a) (h1 : a ≤ 4611686018427387904) (s : Int) :
    ∃ r s', spec_l1Cur_next.f code a s = some (r, a + 1, s') ∧ 0 ≤ r ∧ r ≤ 255 := by
  have hr := hc.rd a
  unfold spec_l1Cur_next.f
  rw [w64 (n := a + 1) (by omega) (by omega)]
  by_cases h : a < (code.length : Int)
  · rw [if_pos h, if_pos h0, if_pos (by omega)]
    exact ⟨_, _, rfl, by rw [w64 (by omega) (by omega)]; exact hr⟩
  · rw [if_neg h, if_neg (by omega)]
    refine ⟨_, _, rfl, ?_⟩
    have := low8 ((IntKind.u64.wrap (IntKind.u64.wrap (s * 6364136223846793005))) + 1442695040888963407)
    rw [w64 (by omega) (by omega)]
    exact this
theorem pick_ends {code : List Int} (hc : Bytes code) {a : Int} (h0 : 0 ≤ a) (h1 : a ≤ 4611686018427387000) (s : Int) (n : Int) :
    ∃ r a' s', spec_l1Cur_pick.f code a s n = some (r, a', s') ∧ 0 ≤ r ∧ (1 ≤ n → r < n) ∧ a ≤ a' ∧ a' ≤ a + 2 := by
  unfold spec_l1Cur_pick.f
  by_cases hn : n ≤ 1
  · rw [if_pos hn]
    exact ⟨_, _, _, rfl, by omega, by omega, by omega, by omega⟩
  · rw [if_neg hn]
    obtain ⟨r, s1, e, hr0, hr1⟩ := next_ends hc h0 (by omega) s
    rw [e]
    simp only [Option.bind_some]
    by_cases h2 : n > 200
    · rw [if_pos h2]
      obtain ⟨r2, s2, e2, hq0, hq1⟩ := next_ends hc (a := a + 1) (by omega) (by omega) s1
      rw [e2]
      simp only [Option.bind_some]
      rw [if_neg (by omega), w64 (n := r * 256) (by omega) (by omega), w64 (by omega) (by omega), Int.tmod_eq_emod_of_nonneg (by omega)]
      exact ⟨_, _, _, rfl, Int.emod_nonneg _ (by omega), fun _ => Int.emod_lt_of_pos _ (by omega), by omega, by omega⟩
    · rw [if_neg h2, if_neg (by omega), Int.tmod_eq_emod_of_nonneg (by omega)]
      exact ⟨_, _, _, rfl, Int.emod_nonneg _ (by omega), fun _ => Int.emod_lt_of_pos _ (by omega), by omega, by omega⟩
theorem one_ends {code : List Int} (hc : Bytes code) {a : Int} (h0 : 0 ≤ a) (h1 : a ≤ 4611686018427387000) (s : Int) (n : Int) :
    ∃ b a' s', spec_l1Cur_one.f code a s n = some (b, a', s') ∧ a ≤ a' ∧ a' ≤ a + 2 := by
  obtain ⟨r, a', s', e, _, _, h2, h3⟩ := pick_ends hc h0 h1 s n
  unfold spec_l1Cur_one.f
  rw [e]
  exact ⟨_, _, _, rfl, h2, h3⟩
end Go.Proofs.Ytfhmkdempebmbaa.U
