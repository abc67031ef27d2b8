/- The small digest of a text, as the program and as the reference compute it: one and the same. -/
import Derived.Test.YtfhmkdempebmbaaUA
import Derived.Test.YtfhmkdempebmbaaPAudx5
import Derived.Test.YtfhmkdempebmbaaPAudx2
namespace Go.Proofs.Ytfhmkdempebmbaa.U
open Go.RowKit Go.Proofs.YtfhmkdempebmbaaW.PrintWords Go.Proofs.Ytfhmkdempebmbaa.PAud

theorem tm {n : Int} (h : 0 ≤ n) (m : Int) : Int.tmod n m = n % m := Int.tmod_eq_emod_of_nonneg h
theorem drop_end (s : ByteArray) {i : Int} (h : (s.size : Int) ≤ i) : s.data.toList.drop i.toNat = [] := List.drop_of_length_le (by simp only [Array.length_toList]; have : s.size = s.data.size := rfl; omega)
theorem impl_feed (s : ByteArray) (hs : s.size ≤ 4611686018427387904) (L : Int) : ∀ (d : Nat) (i A B : Int), 0 ≤ i → (s.size : Int) - i = d → okMix (A, B) →
    Ev (fun k => impl_Mix_feed.l0 k s (s.size : Int) i A B L) ((mixL (A, B) (s.data.toList.drop i.toNat)).1, (mixL (A, B) (s.data.toList.drop i.toNat)).2, wrap64 (L + (s.size : Int))) := by
  intro d
  induction d with
  | zero =>
    intro i A B h0 hd hm
    refine Ev.step (f := fun _ => some (A, B, wrap64 (L + (s.size : Int)))) (fun k => ?_) ?_
    · rw [impl_Mix_feed.l0, if_neg (by omega)]
    · rw [drop_end s (by omega)]; exact Ev.now _
  | succ d ih =>
    intro i A B h0 hd hm
    obtain ⟨c, hc, hb⟩ := bt_drop s i h0 (by omega)
    have hr := bt_range s i
    obtain ⟨hA0, hA1, hB0, hB1⟩ := hm
    simp only at hA0 hA1 hB0 hB1
    refine Ev.step (f := fun k => impl_Mix_feed.l0 k s (s.size : Int) (i + 1) ((A + bt s i) % 65521) ((B + (A + bt s i) % 65521) % 65521) L) (fun k => ?_) ?_
    · rw [impl_Mix_feed.l0, if_pos (by omega), if_pos h0, if_pos (by omega), w64 (n := bt s i) (by omega) (by omega), w64 (n := A + bt s i) (by omega) (by omega), tm (by omega), w64 (n := i + 1) (by omega) (by omega), w64 (n := B + (A + bt s i) % 65521) (by omega) (by omega), tm (by omega)]
    · rw [hc]
      have := ih (i + 1) _ _ (by omega) (by omega) (okMix_step (p := (A, B)) (bt s i))
      simp only [mixL, List.foldl_cons, stepMix, hb] at this ⊢
      exact this
theorem impl_end (A B : Int) (L : Int) (h : okMix (A, B)) : impl_Mix_end.f A B L = some (endMix (A, B)) := by
  obtain ⟨hA0, hA1, hB0, hB1⟩ := h
  simp only at hA0 hA1 hB0 hB1
  have t1 : Int.tdiv B 256 = B / 256 := Int.tdiv_eq_ediv_of_nonneg hB0
  have t2 : Int.tdiv A 256 = A / 256 := Int.tdiv_eq_ediv_of_nonneg hA0
  simp only [impl_Mix_end.f, endMix, t1, t2, tm hA0, tm hB0]
  rw [w64 (n := B / 256) (by omega) (by omega), w64 (n := A / 256) (by omega) (by omega)]
  rw [Int.emod_emod_of_dvd _ (by decide), Int.emod_emod_of_dvd _ (by decide)]
theorem impl_dig (kind : Int) (s : ByteArray) (hk : 0 ≤ kind) (hk' : kind ≤ 255) (hs : s.size ≤ 4611686018427387904) : Ev (fun k => impl_digest.f k kind s) (digest kind s) := by
  have h0 : okMix (kind + 1, kind + 1) := by unfold okMix; simp only; omega
  unfold impl_digest.f
  have e1 : impl_newMix.f kind = some (kind + 1, kind + 1, 0) := by simp only [impl_newMix.f]; rw [w64 (n := kind) (by omega) (by omega), w64 (by omega) (by omega)]
  refine Ev.bind (Ev_of fun _ => e1) ?_
  refine Ev.bind (impl_feed s hs 0 s.size 0 _ _ (by omega) (by omega) h0) ?_
  refine Ev_of fun _ => ?_
  have hm := okMix_mixL (s.data.toList.drop (0 : Int).toNat) h0
  have := impl_end (mixL (kind + 1, kind + 1) (s.data.toList.drop (0 : Int).toNat)).1 (mixL (kind + 1, kind + 1) (s.data.toList.drop (0 : Int).toNat)).2 (wrap64 (0 + (s.size : Int))) hm
  simp only []
  rw [this]
  rfl
theorem spec_feed (s : ByteArray) (hs : s.size ≤ 4611686018427387904) (L : Int) : ∀ (d : Nat) (i A B : Int), 0 ≤ i → (s.size : Int) - i = d → okMix (A, B) →
    Ev (fun k => spec_l1Feed.l0 k s i A B L) ((mixL (A, B) (s.data.toList.drop i.toNat)).1, (mixL (A, B) (s.data.toList.drop i.toNat)).2, wrap64 (L + (s.size : Int))) := by
  intro d
  induction d with
  | zero =>
    intro i A B h0 hd hm
    refine Ev.step (f := fun _ => some (A, B, wrap64 (L + (s.size : Int)))) (fun k => ?_) ?_
    · rw [spec_l1Feed.l0, if_neg (by omega)]
    · rw [drop_end s (by omega)]; exact Ev.now _
  | succ d ih =>
    intro i A B h0 hd hm
    obtain ⟨c, hc, hb⟩ := bt_drop s i h0 (by omega)
    have hr := bt_range s i
    obtain ⟨hA0, hA1, hB0, hB1⟩ := hm
    simp only at hA0 hA1 hB0 hB1
    refine Ev.step (f := fun k => spec_l1Feed.l0 k s (i + 1) ((A + bt s i) % 65521) ((B + (A + bt s i) % 65521) % 65521) L) (fun k => ?_) ?_
    · rw [spec_l1Feed.l0, if_pos (by omega), if_pos h0, w64 (n := bt s i) (by omega) (by omega), w64 (n := A + bt s i) (by omega) (by omega), tm (by omega), w64 (n := i + 1) (by omega) (by omega), w64 (n := B + (A + bt s i) % 65521) (by omega) (by omega), tm (by omega)]
    · rw [hc]
      have := ih (i + 1) _ _ (by omega) (by omega) (okMix_step (p := (A, B)) (bt s i))
      simp only [mixL, List.foldl_cons, stepMix, hb] at this ⊢
      exact this
theorem spec_dig (kind : Int) (s : ByteArray) (hk : 97 ≤ kind) (hk' : kind ≤ 122) (hs : s.size ≤ 4611686018427387904) : Ev (fun k => spec_l1Digest.f k kind s) (digest kind s) := by
  have h0 : okMix (kind + 1, kind + 1) := by unfold okMix; simp only; omega
  unfold spec_l1Digest.f
  have e1 : spec_NewMix.f kind = some (kind + 1, kind + 1, 0, true) := by
    simp only [spec_NewMix.f, spec_l1Kind.f]
    rw [if_pos (by omega)]
    simp only [Option.bind_some]
    rw [if_pos (by simp; omega), w64 (n := kind) (by omega) (by omega), w64 (by omega) (by omega), Int.add_comm]
  refine Ev.bind (Ev_of fun _ => e1) ?_
  refine Ev.bind (spec_feed s hs 0 s.size 0 _ _ (by omega) (by omega) h0) ?_
  refine Ev_of fun _ => ?_
  simp only [spec_l1End.f, Option.bind_some]
  rfl
end Go.Proofs.Ytfhmkdempebmbaa.U
