/- The sectors and writes of an argument, out of its reading. -/
import Derived.Test.YtmhhfhmpdpgmbaaStepP
import Derived.Test.YtmhhfhmpdpgmbaaGiven
namespace Go.Proofs.Ytmhhfhmpdpgmbaa
open Go.ChangeShapes Go.WideShapes Go.ChangeAt Go.RowKit Go.Deep Go.BigFrame

theorem bv_all : ∀ cs : List Value, (∀ v ∈ cs, ∃ b, v = bv b) → ∃ s : Sec, cs = sv s
  | [], _ => ⟨[], rfl⟩
  | c :: cs, h => by
    obtain ⟨b, hb⟩ := h c List.mem_cons_self
    obtain ⟨s, hs⟩ := bv_all cs (fun v hv => h v (List.mem_cons_of_mem _ hv))
    exact ⟨b :: s, by rw [hb, hs]; rfl⟩
section
variable {H : Type} {enc : TypeId × Value → H} {w : World} {base : Nat} {spare : Nat → Bool} {held : Bool}
set_option maxRecDepth 100000 in
theorem sec_of {fuel : Nat} {cs : List Value} {x : DataW H × List MemPlace} (h : DataW.trod enc Try.prog w base spare held fuel 53 cs = some x) : ∃ s : Sec, cs = sv s ∧ s.length = 32 := by
  obtain ⟨xs, m, _, _, hlen, hl, hel⟩ := DataW.trod_array Try.underlying53 h
  have hC : Try.prog.cellsOf 53 = 32 := by kernel_rfl
  have hu : Try.prog.cellsOf 5 = 1 := by kernel_rfl
  rw [hC] at hlen
  have hb : ∀ v ∈ cs, ∃ b, v = bv b := by
    intro v hv
    obtain ⟨i, hi, rfl⟩ := List.mem_iff_getElem.1 hv
    have q := hel i (by omega)
    rw [hu, Nat.mul_one, List.getElem?_eq_getElem (by omega), List.drop_eq_getElem_cons hi] at q
    simp only [List.take_succ_cons, List.take_zero] at q
    obtain ⟨n0, e0, _, w0⟩ := DataW.trod_int Try.underlying5 q
    injection e0 with e0
    have b0 := bounds_u8 w0
    refine ⟨UInt8.ofNat n0.toNat, ?_⟩
    rw [e0, bv, UInt8.toNat_ofNat_of_lt' (by show n0.toNat < 256; omega), show ((n0.toNat : Nat) : Int) = n0 by omega]
  obtain ⟨s, rfl⟩ := bv_all cs hb
  exact ⟨s, rfl, by simpa [sv] using hlen⟩
set_option maxRecDepth 100000 in
theorem write_of {fuel : Nat} {cs : List Value} {x : DataW H × List MemPlace} (h : DataW.trod enc Try.prog w base spare held fuel 55 cs = some x) : ∃ y : Int × Sec, cs = wv y ∧ y.2.length = 32 := by
  obtain ⟨y0, y1, n, _, hlen, h0, h1⟩ := trod_struct2 Try.underlying55 h
  have hC : Try.prog.cellsOf 55 = 33 := by kernel_rfl
  have hS : Try.prog.cellsOf 53 = 32 := by kernel_rfl
  have hu : Try.prog.cellsOf 3 = 1 := by kernel_rfl
  rw [hC] at hlen
  match cs, hlen with
  | c :: cs, hlen =>
    change DataW.trod enc _ w base spare held n 3 (List.take (Try.prog.cellsOf 3) (c :: cs)) = some _ at h0
    change DataW.trod enc _ w base spare held n 53 (List.take (Try.prog.cellsOf 53) cs) = some _ at h1
    rw [hu] at h0
    rw [hS, List.take_of_length_le (by simp at hlen; omega)] at h1
    simp only [List.take_succ_cons, List.take_zero] at h0
    obtain ⟨n0, e0, _, _⟩ := DataW.trod_int Try.underlying3 h0
    injection e0 with e0
    obtain ⟨s, rfl, hs⟩ := sec_of h1
    exact ⟨(n0, s), by rw [e0]; rfl, hs⟩
/-- The elements of a slice, in one list. -/
theorem list_of {α : Type} (f : α → List Value) (size b o : Nat) : ∀ len : Nat, (∀ i, i < len → ∃ x : α, (f x).length = size ∧ w.rangeAt b (o + i * size) (f x)) →
    ∃ l : List α, l.length = len ∧ (∀ x ∈ l, (f x).length = size) ∧ w.rangeAt b o (l.flatMap f)
  | 0, _ => ⟨[], rfl, fun _ h => absurd h List.not_mem_nil, fun _ _ h => by simp at h⟩
  | len + 1, h => by
    obtain ⟨l, hl, ha, hr⟩ := list_of f size b o len (fun i hi => h i (by omega))
    obtain ⟨x, hx, hrx⟩ := h len (by omega)
    have hfl := flat_length f size l ha
    refine ⟨l ++ [x], by simp [hl], fun y hy => ?_, fun j v hj => ?_⟩
    · rcases List.mem_append.1 hy with h | h
      · exact ha y h
      · rw [List.mem_singleton.1 h]; exact hx
    · rw [List.flatMap_append, List.flatMap_singleton] at hj
      rcases Nat.lt_or_ge j (l.flatMap f).length with hlt | hge
      · rw [List.getElem?_append_left hlt] at hj
        exact hr j v hj
      · rw [List.getElem?_append_right hge] at hj
        have := hrx _ v hj
        rwa [show o + len * size + (j - (l.flatMap f).length) = o + j by rw [hl] at hfl; omega] at this
set_option maxRecDepth 100000 in
theorem sectors_of {fuel : Nat} {cs : List Value} {x : DataW H × List MemPlace} (h : DataW.trod enc Try.prog w base spare held fuel 22 cs = some x) :
    ∃ v, ∃ l : List Sec, cs = [v] ∧ l.length ≤ maxLen ∧ (∀ s ∈ l, s.length = 32) ∧ RowAt w v l.length (l.flatMap sv) := by
  rcases open_slice Try.underlying22 h with ⟨rfl, _⟩ | ⟨a, len, cap, m, n, D, Pl, rfl, hb, hl, hm, hmm, _, hi⟩
  · exact ⟨_, [], rfl, Nat.zero_le _, fun _ h => absurd h List.not_mem_nil, none, 0, rfl, Nat.le_refl _, fun h => absurd rfl h⟩
  · have hC : Try.prog.cellsOf 53 = 32 := by kernel_rfl
    have hlm : len ≤ m := by rw [hmm]; split <;> omega
    rcases Nat.eq_zero_or_pos len with h0 | h0
    · subst h0
      exact ⟨_, [], rfl, Nat.zero_le _, fun _ h => absurd h List.not_mem_nil, some a, cap, rfl, Nat.zero_le _, fun h => absurd rfl h⟩
    · have hex : ∀ i, i < len → ∃ s : Sec, (sv s).length = 32 ∧ ∀ j v, (sv s)[j]? = some v → w.cell? ((a.add (i * 32)).add j) = some v := by
        intro i hlt
        obtain ⟨cs', hc, ht⟩ := hi i (by omega)
        rw [hC] at hc
        obtain ⟨_, hcl, hat⟩ := World.cells?_some hc
        obtain ⟨s, rfl, hs⟩ := sec_of ht
        refine ⟨s, by rw [sv_length, hs], fun j v hj => ?_⟩
        have := hat j (by rcases Nat.lt_or_ge j 32 with h | h; exact h; rw [List.getElem?_eq_none (by rw [sv_length, hs]; exact h)] at hj; cases hj)
        rw [this, hj]
      obtain ⟨b, o, spot⟩ := a
      have hspot : spot = none := by
        obtain ⟨s, hs, hx⟩ := hex 0 h0
        have := hx 0 _ (List.getElem?_eq_getElem (by omega))
        simpa [Addr.add] using World.cell?_spot this
      subst hspot
      obtain ⟨l, hll, hl32, hr⟩ := list_of (w := w) sv 32 b o len (fun i hlt => by obtain ⟨s, hs, hx⟩ := hex i hlt; exact ⟨s, hs, fun j v hj => by have := hx j v hj; rwa [Addr.add_mid, Addr.add_mid] at this⟩)
      exact ⟨_, l, rfl, by omega, fun s hs => by have := hl32 s hs; rwa [sv_length] at this, some ⟨b, o, none⟩, cap, by rw [hll], by omega, fun _ => ⟨b, o, rfl, hr⟩⟩
set_option maxRecDepth 100000 in
theorem writes_of {fuel : Nat} {cs : List Value} {x : DataW H × List MemPlace} (h : DataW.trod enc Try.prog w base spare held fuel 23 cs = some x) :
    ∃ v, ∃ l : List (Int × Sec), cs = [v] ∧ l.length ≤ maxLen ∧ (∀ s ∈ l, s.2.length = 32) ∧ RowAt w v l.length (l.flatMap wv) := by
  rcases open_slice Try.underlying23 h with ⟨rfl, _⟩ | ⟨a, len, cap, m, n, D, Pl, rfl, hb, hl, hm, hmm, _, hi⟩
  · exact ⟨_, [], rfl, Nat.zero_le _, fun _ h => absurd h List.not_mem_nil, none, 0, rfl, Nat.le_refl _, fun h => absurd rfl h⟩
  · have hC : Try.prog.cellsOf 55 = 33 := by kernel_rfl
    have hlm : len ≤ m := by rw [hmm]; split <;> omega
    rcases Nat.eq_zero_or_pos len with h0 | h0
    · subst h0
      exact ⟨_, [], rfl, Nat.zero_le _, fun _ h => absurd h List.not_mem_nil, some a, cap, rfl, Nat.zero_le _, fun h => absurd rfl h⟩
    · have hex : ∀ i, i < len → ∃ s : Int × Sec, (wv s).length = 33 ∧ ∀ j v, (wv s)[j]? = some v → w.cell? ((a.add (i * 33)).add j) = some v := by
        intro i hlt
        obtain ⟨cs', hc, ht⟩ := hi i (by omega)
        rw [hC] at hc
        obtain ⟨_, hcl, hat⟩ := World.cells?_some hc
        obtain ⟨s, rfl, hs⟩ := write_of ht
        refine ⟨s, by rw [wv_length, hs], fun j v hj => ?_⟩
        have := hat j (by rcases Nat.lt_or_ge j 33 with h | h; exact h; rw [List.getElem?_eq_none (by rw [wv_length, hs]; exact h)] at hj; cases hj)
        rw [this, hj]
      obtain ⟨b, o, spot⟩ := a
      have hspot : spot = none := by
        obtain ⟨s, hs, hx⟩ := hex 0 h0
        have := hx 0 _ (List.getElem?_eq_getElem (by omega))
        simpa [Addr.add] using World.cell?_spot this
      subst hspot
      obtain ⟨l, hll, hl32, hr⟩ := list_of (w := w) wv 33 b o len (fun i hlt => by obtain ⟨s, hs, hx⟩ := hex i hlt; exact ⟨s, hs, fun j v hj => by have := hx j v hj; rwa [Addr.add_mid, Addr.add_mid] at this⟩)
      exact ⟨_, l, rfl, by omega, fun s hs => by have := hl32 s hs; rw [wv_length] at this; omega, some ⟨b, o, none⟩, cap, by rw [hll], by omega, fun _ => ⟨b, o, rfl, hr⟩⟩
end
end Go.Proofs.Ytmhhfhmpdpgmbaa
