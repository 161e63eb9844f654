/- JournalBack: whatever the input, the Go text returns true, and the input reads as it did. -/
import Derived.Test.YtmhhfhmpdpgmbaaRows
import Derived.Test.YtmhhfhmpdpgmbaaBack
import Derived.Test.YtmhhfhmpdpgmbaaStepP
import Derived.SliceStrings
namespace Go.Proofs.Ytmhhfhmpdpgmbaa
open Go.ChangeShapes Go.WideShapes Go.ChangeAt Go.RowKit Go.Deep

section
variable {H : Type} {enc : TypeId × Value → H} {w : World} {base : Nat} {spare : Nat → Bool} {held : Bool}
/-- The texts of an argument, out of its reading. -/
theorem texts_of {fuel : Nat} {cs : List Value} {x : DataW H × List MemPlace} (h : DataW.trod enc Try.prog w base spare held fuel 56 cs = some x) :
    ∃ A c l, cs = [.slice A l.length c] ∧ l.length ≤ maxLen ∧ Texts (fun _ => True) w (.slice A l.length c) l := by
  rcases open_strings Try.underlying56 Try.underlying9 (by kernel_rfl) h with ⟨rfl, _⟩ | ⟨a, len, cap, ss, rfl, _, hl, hm, hss, _, hc, _⟩
  · exact ⟨none, 0, [], rfl, by decide, none, 0, rfl, Nat.le_refl _, fun h => absurd rfl h⟩
  · have hlen : (ss.take len).length = len := by rw [List.length_take, hss]; split <;> omega
    refine ⟨some a, cap, ss.take len, by rw [hlen], by omega, some a, cap, rfl, by omega, fun hn => ?_⟩
    have h0 : 0 < ss.length := by
      rcases Nat.eq_zero_or_pos ss.length with h0 | h0
      · rw [List.length_eq_zero_iff.1 h0] at hn
        simp at hn
      · exact h0
    obtain ⟨b, o, spot⟩ := a
    have hspot : spot = none := by
      have := hc 0 h0
      simpa [Addr.add] using World.cell?_spot this
    subst hspot
    refine ⟨b, o, rfl, trivial, fun j v hv => ?_⟩
    rw [List.getElem?_map, List.getElem?_take] at hv
    split at hv
    · have hj : j < ss.length := by
        rcases Nat.lt_or_ge j ss.length with h | h
        · exact h
        · rw [List.getElem?_eq_none h] at hv; cases hv
      have := hc j hj
      rw [Addr.add_mid] at this
      rw [this, ← hv, List.getElem?_eq_getElem hj, List.getD_eq_getElem?_getD, List.getElem?_eq_getElem hj]
      rfl
    · cases hv
end

/-! ### The row -/
set_option maxRecDepth 100000 in
theorem liftedBack (os : Os) (started : os.Started) (H : Type) (enc : TypeId × Value → H) :
    ReturnsInHanded {} Try.checked os 6 .any (Rows.journalBackSpec.pre6 enc Try.prog Try.f6 Rows.journalBackRow.domain false) (Rows.journalBackSpec.post enc Try.prog Try.f6 false true false false) := by
  refine returnsInHanded_of_change (C := Try.checked) knobOwn started (by kernel_rfl) Try.func6
    (ChangeSpec.witness6 (enc := enc) (C := Try.checked) false ⟨#[], #[.slice none 0 0, .slice none 0 0, .int .u16 0], []⟩ 8 (by kernel_rfl) (by kernel_rfl) (by kernel_rfl) (by kernel_rfl)) ?_
  intro W base args ds gs before hval0 hW hcnd _
  have hval : ∀ (j : Nat) t v, Try.f6.params[j]? = some t → args[j]? = some v → Value.okWide Try.prog W .any base t v := hval0
  have hW' := hW
  obtain ⟨p, q, hA0, hV, rfl, hfz, hnd⟩ := hW
  have hA : DataW.TrodAll enc Try.prog W 0 (fun _ => true) true Try.f6.params.toList args.toList ds p := hA0
  rw [Try.params6] at hA hval
  obtain ⟨v0, vs0, d0, ds0, p0, q0, hargs, rfl, rfl, h0, r0⟩ := trodAll_cons hA
  obtain ⟨v1, vs1, d1, ds1, p1, q1, rfl, rfl, rfl, h1, r1⟩ := trodAll_cons r0
  obtain ⟨v2, vs2, d2, ds2, p2, q2, rfl, rfl, rfl, h2, r2⟩ := trodAll_cons r1
  obtain ⟨rfl, rfl, rfl⟩ := trodAll_nil r2
  obtain rfl : args = #[v0, v1, v2] := by cases args; simp_all
  obtain ⟨rfl, rfl⟩ := trodVars_none hV
  obtain ⟨a0, len0, cap0, rfl⟩ := okWide_slice Try.underlying56 (hval 0 56 v0 rfl rfl)
  obtain ⟨a1, len1, cap1, rfl⟩ := okWide_slice Try.underlying56 (hval 1 56 v1 rfl rfl)
  obtain ⟨a2, rfl, rfl, rfl, w2⟩ := open_int Try.underlying57 (hval 2 57 v2 rfl rfl) h2
  have k0 := h0
  have k1 := h1
  have lt0 : ∀ x ∈ p0, x.block < W.heap.size := by obtain ⟨m, hm⟩ := k0; exact DataW.trod_lt m _ _ _ hm
  have lt1 : ∀ x ∈ p1, x.block < W.heap.size := by obtain ⟨m, hm⟩ := k1; exact DataW.trod_lt m _ _ _ hm
  obtain ⟨fuel0, hf0⟩ := h0
  obtain ⟨fuel1, hf1⟩ := h1
  obtain ⟨A0, c0, l0, hcs0, hn0, ht0⟩ := texts_of hf0
  obtain ⟨A1, c1, l1, hcs1, hn1, ht1⟩ := texts_of hf1
  simp [Value.cells] at hcs0 hcs1
  obtain ⟨rfl, rfl, rfl⟩ := hcs0
  obtain ⟨rfl, rfl, rfl⟩ := hcs1
  have hb := bounds_u16 w2
  obtain ⟨ct, rfl⟩ : ∃ ct : Nat, a2 = ct := ⟨a2.toNat, by omega⟩
  clear hA0 hval0
  refine (back_t _ _ _ _ l0 l1 ct W ht0 ht1 (by omega) (by unfold maxLen at hn0; omega) (by unfold maxLen at hn1; omega)).mono fun e W' ⟨he, hx⟩ => ?_
  subst he
  have bel : Below W.heap.size W W' := hx.below (Nat.le_refl _) (fun k h => h.elim)
  exact ⟨_, rfl, _, _, _, [], _, [], hW', trodAll_mk1 (shut_bool Try.underlying4 _), (trodAll_cons_mk (Below.trod laidOutR (by kernel_rfl) (of_decide_eq_true (by kernel_rfl)) k0 bel lt0) (trodAll_cons_mk (Below.trod laidOutR (by kernel_rfl) (of_decide_eq_true (by kernel_rfl)) k1 bel lt1) (trodAll_cons_mk (shut_int Try.underlying57 w2) trodAll_mk0))), rfl, bel.frame _, fun h => by cases h⟩

/-- For any texts JournalBack returns true; no condition but those of the form. -/
theorem backProved : Rows.JournalBackSaid :=
  OpenClaim.holds_of_wide 6 Try.f6 rfl rfl rfl rfl rfl rfl rfl ⟨rfl, rfl, rfl, rfl, rfl⟩ rfl rfl rfl rfl rfl (by kernel_rfl) Try.func6 (by kernel_rfl)
    (of_decide_eq_true (by kernel_rfl)) (by unfold Func.isWrapper; first | (rw [if_pos (by decide +kernel)]; kernel_rfl) | (rw [if_neg (by decide +kernel)]; exact ⟨rfl, rfl⟩))
    (fun os started H enc _ => liftedBack os started H enc)
#print axioms backProved
end Go.Proofs.Ytmhhfhmpdpgmbaa
