/- Plain lemmas on numbers, byte strings and rounds, and the small digest of a text. -/
import Derived.Test.YtfhmkdempebmbaaWWords
import Derived.Laws.Strings
namespace Go.Proofs.Ytfhmkdempebmbaa.U
open Go.RowKit Go.Proofs.YtfhmkdempebmbaaW.PrintWords

theorem w64 {n : Int} (h : -9223372036854775808 ≤ n) (h' : n ≤ 9223372036854775807) : wrap64 n = n := by unfold wrap64; omega
theorem Ev_of {α : Type} {g : Nat → Option α} {r : α} (h : ∀ k, g k = some r) : Ev g r := ⟨0, fun k _ => h k⟩
theorem Ev_ite {α : Type} {g f : Nat → Option α} {r : α} {c : Prop} [Decidable c] (h : c → Ev g r) (h' : ¬ c → Ev f r) : Ev (fun k => if c then g k else f k) r := by
  by_cases hc : c
  · exact Ev.congr (fun k => if_pos hc) (h hc)
  · exact Ev.congr (fun k => if_neg hc) (h' hc)
theorem Ev_pos {α : Type} {g f : Nat → Option α} {r : α} {c : Prop} [Decidable c] (hc : c) (h : Ev g r) : Ev (fun k => if c then g k else f k) r := Ev.congr (fun _ => if_pos hc) h
theorem Ev_neg {α : Type} {g f : Nat → Option α} {r : α} {c : Prop} [Decidable c] (hc : ¬ c) (h : Ev f r) : Ev (fun k => if c then g k else f k) r := Ev.congr (fun _ => if_neg hc) h
theorem Ev_some {α β : Type} {f : Nat → α → Option β} {a : α} {r : β} (k : Ev (fun n => f n a) r) : Ev (fun n => (some a).bind (f n)) r := Ev.congr (fun _ => rfl) k
theorem Ev_cast {α : Type} {g : Nat → Option α} {r r' : α} (h : Ev g r) (e : r = r') : Ev g r' := e ▸ h
theorem Ev_uniq {α : Type} {g : Nat → Option α} {r r' : α} (h : Ev g r) (h' : Ev g r') : r = r' := by
  obtain ⟨K, h⟩ := h
  obtain ⟨K', h'⟩ := h'
  exact Option.some.inj ((h (max K K') (by omega)).symm.trans (h' (max K K') (by omega)))

/-! bytes -/
theorem str_inj {a b : ByteArray} : a.toList = b.toList ↔ a = b := by
  constructor
  · intro h
    have h1 : a.data.toList = b.data.toList := by rwa [ByteArray.toList_eq, ByteArray.toList_eq] at h
    cases a; cases b
    simp only [ByteArray.mk.injEq] at *
    exact Array.toList_inj.1 h1
  · rintro rfl; rfl
theorem bt_drop (s : ByteArray) (i : Int) (h0 : 0 ≤ i) (h1 : i < (s.size : Int)) : ∃ c : UInt8, s.data.toList.drop i.toNat = c :: s.data.toList.drop (i + 1).toNat ∧ (c.toNat : Int) = bt s i := by
  have hlt : i.toNat < s.data.toList.length := by simp only [Array.length_toList]; have : s.size = s.data.size := rfl; omega
  refine ⟨s.data.toList[i.toNat], ?_, ?_⟩
  · rw [show (i + 1).toNat = i.toNat + 1 by omega]; exact List.drop_eq_getElem_cons hlt
  · have hs : i.toNat < s.size := by omega
    rw [← bt_at s i hs]; rfl
theorem size_str (l : List Int) : (strOfNums l).size = l.length := by unfold strOfNums; show (List.toArray _).size = _; simp

/-! the small digest -/
def stepMix (p : Int × Int) (c : Int) : Int × Int := ((p.1 + c) % 65521, (p.2 + (p.1 + c) % 65521) % 65521)
def mixL (p : Int × Int) (l : List UInt8) : Int × Int := l.foldl (fun p c => stepMix p (c.toNat : Int)) p
def okMix (p : Int × Int) : Prop := 0 ≤ p.1 ∧ p.1 ≤ 65520 ∧ 0 ≤ p.2 ∧ p.2 ≤ 65520
theorem okMix_step {p : Int × Int} (c : Int) : okMix (stepMix p c) := by unfold okMix stepMix; omega
theorem okMix_mixL (l : List UInt8) : ∀ {p : Int × Int}, okMix p → okMix (mixL p l) := by
  induction l with
  | nil => intro p h; exact h
  | cons c l ih => intro p h; exact ih (okMix_step _)
def endMix (p : Int × Int) : ByteArray := strOfNums [p.2 / 256 % 256, p.2 % 256, p.1 / 256 % 256, p.1 % 256]
def digest (kind : Int) (s : ByteArray) : ByteArray := endMix (mixL (kind + 1, kind + 1) s.data.toList)
theorem digest_size (kind : Int) (s : ByteArray) : (digest kind s).size = 4 := size_str _
end Go.Proofs.Ytfhmkdempebmbaa.U
