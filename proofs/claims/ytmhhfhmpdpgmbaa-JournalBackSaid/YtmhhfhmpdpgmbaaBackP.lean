/- Texts are unpacked from what Pack makes of them. No walk. -/
import Derived.Test.YtmhhfhmpdpgmbaaUnpack
namespace Go.Proofs.Ytmhhfhmpdpgmbaa

theorem txt_data (s : ByteArray) : txt s.data.toList = s := by
  unfold txt
  rw [Array.toArray_toList]
theorem packB_cons (s : ByteArray) (l : List ByteArray) : packB (s :: l) = UInt8.ofNat (s.size / 256) :: UInt8.ofNat s.size :: (s.data.toList ++ packB l) := by
  simp [packB, packOne]
theorem size_bytes (s : ByteArray) (h : s.size ≤ 1000) : (UInt8.ofNat (s.size / 256)).toNat * 256 + (UInt8.ofNat s.size).toNat = s.size := by
  rw [show (UInt8.ofNat (s.size / 256)).toNat = s.size / 256 % 256 by simp, show (UInt8.ofNat s.size).toNat = s.size % 256 by simp]
  omega
theorem data_len (s : ByteArray) : s.data.toList.length = s.size := by
  rw [Array.length_toList]; rfl
theorem unpack_cons (s : ByteArray) (h : s.size ≤ 1000) (f : Nat) (r : List UInt8) (out : List ByteArray) (ho : out.length < 100) :
    unpackGo (f + 1) (UInt8.ofNat (s.size / 256) :: UInt8.ofNat s.size :: (s.data.toList ++ r)) out = unpackGo f r (out ++ [s]) := by
  rw [unpack_step, size_bytes s h, if_neg, List.drop_left' (data_len s), List.take_left' (data_len s), txt_data]
  rw [List.length_append, data_len]
  omega
theorem unpack_go : ∀ (l : List ByteArray) (out : List ByteArray) (tail : List UInt8) (f : Nat), (∀ s ∈ l, s.size ≤ 1000) → out.length + l.length ≤ 100 → (packB l ++ tail).length ≤ f →
    ∃ f', tail.length ≤ f' ∧ unpackGo f (packB l ++ tail) out = unpackGo f' tail (out ++ l)
  | [], out, tail, f, _, _, hf => ⟨f, by simpa [packB] using hf, by simp [packB]⟩
  | s :: l, out, tail, f, hs, ho, hf => by
    rw [packB_cons] at hf ⊢
    simp only [List.cons_append, List.append_assoc, List.length_cons, List.length_append, data_len] at hf ⊢
    obtain ⟨g, rfl⟩ : ∃ g, f = g + 1 := ⟨f - 1, by omega⟩
    rw [unpack_cons s (hs s (List.mem_cons_self ..)) g (packB l ++ tail) out (by simp only [List.length_cons] at ho; omega)]
    obtain ⟨f', h1, h2⟩ := unpack_go l (out ++ [s]) tail g (fun s h => hs s (List.mem_cons_of_mem _ h)) (by simp at ho ⊢; omega) (by rw [List.length_append]; omega)
    exact ⟨f', h1, by rw [h2]; simp⟩
theorem unpack_pack (l : List ByteArray) (hs : ∀ s ∈ l, s.size ≤ 1000) (hl : l.length ≤ 100) (ht : (packB l).length ≤ 4000) : unpackB (packB l) = some l := by
  unfold unpackB
  rw [if_neg (by omega)]
  obtain ⟨f', _, h⟩ := unpack_go l [] [] (packB l).length hs (by simpa using hl) (by simp)
  rw [List.append_nil] at h
  rw [h]
  cases f' <;> rfl
theorem unpack_more (l : List ByteArray) (hs : ∀ s ∈ l, s.size ≤ 1000) (hl : l.length ≤ 100) : unpackB (packB l ++ [0]) = none := by
  unfold unpackB
  split
  · rfl
  · obtain ⟨f', _, h⟩ := unpack_go l [] [0] (packB l ++ [0]).length hs (by simpa using hl) (Nat.le_refl _)
    rw [h]
    cases f' <;> rfl
theorem pack_inj (l m : List ByteArray) (h1 : ∀ s ∈ l, s.size ≤ 1000) (h2 : l.length ≤ 100) (h3 : (packB l).length ≤ 4000) (h4 : ∀ s ∈ m, s.size ≤ 1000) (h5 : m.length ≤ 100) (h6 : (packB m).length ≤ 4000) : decide (packB l = packB m) = decide (l = m) := by
  apply decide_eq_decide.2
  refine ⟨fun h => ?_, fun h => by rw [h]⟩
  have a := unpack_pack l h1 h2 h3
  have b := unpack_pack m h4 h5 h6
  rw [h, b] at a
  exact (Option.some.inj a).symm
theorem unpack_piece : ∀ (l : List ByteArray) (out : List ByteArray) (n f : Nat) (y : List ByteArray), (∀ s ∈ l, s.size ≤ 1000) → out.length + l.length ≤ 100 → n < (packB l).length → ((packB l).take n).length ≤ f →
    unpackGo f ((packB l).take n) out = some y → ∃ k, k < l.length ∧ y = out ++ l.take k
  | [], _, _, _, _, _, _, hn, _, _ => by simp [packB] at hn
  | s :: l, out, n, f, y, hs, ho, hn, hf, h => by
    rw [packB_cons] at hn hf h
    match n, hn, hf, h with
    | 0, _, _, h =>
      have h : unpackGo f [] out = some y := h
      have : y = out := by cases f <;> (simp [unpackGo] at h; exact h.symm)
      exact ⟨0, by simp, by simp [this]⟩
    | 1, _, _, h =>
      have h : unpackGo f [_] out = some y := h
      cases f <;> simp [unpackGo] at h
    | n + 2, hn, hf, h =>
      simp only [List.take_succ_cons] at h hf
      simp only [List.length_cons, List.length_append, data_len] at hn
      simp only [List.length_cons, List.length_take, List.length_append, data_len] at hf
      obtain ⟨g, rfl⟩ : ∃ g, f = g + 1 := ⟨f - 1, by omega⟩
      have hsz := hs s (List.mem_cons_self ..)
      by_cases hc : n < s.size
      · rw [unpack_step, size_bytes s hsz, if_pos] at h
        · cases h
        · right; left
          rw [List.length_take, List.length_append, data_len]
          omega
      · have e : (s.data.toList ++ packB l).take n = s.data.toList ++ (packB l).take (n - s.size) := by
          rw [List.take_append, List.take_of_length_le (by rw [data_len]; omega), data_len]
        rw [e, unpack_cons s hsz g _ out (by simp only [List.length_cons] at ho; omega)] at h
        obtain ⟨k, hk, hy⟩ := unpack_piece l (out ++ [s]) (n - s.size) g y (fun s h => hs s (List.mem_cons_of_mem _ h)) (by simp at ho ⊢; omega) (by omega) (by rw [List.length_take]; omega) h
        exact ⟨k + 1, by simpa using hk, by rw [hy]; simp⟩
end Go.Proofs.Ytmhhfhmpdpgmbaa
