/- What Open finds on a disk that a journal kept. No walk. -/
import Derived.Test.YtmhhfhmpdpgmbaaInv3
namespace Go.Proofs.Ytmhhfhmpdpgmbaa

section
variable {half : Nat} {S : List Sec} {P : List (Int × Sec)} {ar ep li en : Nat} {recs : List (List UInt8)} {safe : Nat} {L X T R : List Sec} {l0 : Nat}
theorem Inv.right (h : Inv half S P ar ep li en recs safe L X T R l0) (hN : S.length ≤ 32768) : rightB S P = true := by
  unfold rightB
  simp only [Bool.and_eq_true, decide_eq_true_eq, Bool.not_eq_true', List.any_eq_false]
  refine ⟨⟨by have := h.hh; have := h.hS; omega, hN⟩, fun x hx => ?_⟩
  rw [h.pend] at hx
  obtain ⟨j, hj, rfl⟩ := posW_mem _ _ _ hx
  unfold outside
  simp only [Bool.or_eq_true, decide_eq_true_eq, not_or]
  have h1 := h.hen
  have h2 := h.hen2
  have h3 : ar * half ≤ 1 * half := Nat.mul_le_mul_right _ h.har
  have h4 := h.hS
  constructor <;> omega
theorem right_nil (S : List Sec) (h1 : 4 ≤ S.length) (h2 : S.length ≤ 32768) : rightB S [] = true := by
  unfold rightB
  simp [h1, h2]

/-- Open on a disk whose newest records lie in one area. -/
theorem open_area {B : Nat} {w : World} {d : Nat} {vs vp : Value} {S : List Sec} {P : List (Int × Sec)} {e : Ending} {w' : World} (h : OpenPost B w d vs vp S P e w') {V : List Sec} {half ar ep en : Nat} {rs : List (List UInt8)}
    (hV : V = crash S P []) (hh : half = S.length / 2) (har : ar ≤ 1) (hr : rightB S P = true) (hl : (lives V half).1 + 1 ≤ 1073741824)
    (hs : scanA (areaOf V half ar) = (rs, en)) (he : scanEp (areaOf V half ar) = ep) (hrs : rs ≠ [])
    (ho : (scanA (areaOf V half (1 - ar))).1 = [] ∨ scanEp (areaOf V half (1 - ar)) < ep) :
    ∃ j vr, e = .returned (.tuple #[.pointer (some ⟨j, 0, none⟩), .int .i64 0]) ∧ w.heap.size ≤ j ∧ JAt B w' j d vs vp vr S P ar ep ((lives V half).1 + 1) en rs ∧ OwnFr w (.slice none 0 0) vr ∧ Ext NoS w w' := by
  have a0 : V.take half = areaOf V half 0 := by unfold areaOf; rw [Nat.zero_mul, List.drop_zero]
  have a1 : (V.drop half).take half = areaOf V half 1 := by unfold areaOf; rw [Nat.one_mul]
  have hrs' : rs.isEmpty = false := by cases rs with
    | nil => exact absurd rfl hrs
    | cons => rfl
  unfold OpenPost at h
  rw [if_neg (by rw [hr]; decide)] at h
  simp only [← hV, ← hh, a0, a1] at h
  rw [if_neg] at h
  · rcases Nat.lt_or_ge ar 1 with h0 | h0
    · have : ar = 0 := by omega
      subst this
      change (scanA (areaOf V half 1)).1 = [] ∨ scanEp (areaOf V half 1) < ep at ho
      rw [if_neg (by simp only [hs, hrs', Bool.false_and]; decide)] at h
      have hu : ((scanA (areaOf V half 0)).1.isEmpty || (!(scanA (areaOf V half 1)).1.isEmpty && decide (scanEp (areaOf V half 0) < scanEp (areaOf V half 1)))) = false := by
        rw [hs, hrs', he, Bool.false_or]
        rcases ho with ho | ho
        · rw [ho]; rfl
        · rw [decide_eq_false (show ¬ ep < scanEp (areaOf V half 1) by omega), Bool.and_false]
      rw [hu] at h
      simp only [Bool.false_eq_true, if_false, hs, he] at h
      exact h
    · have : ar = 1 := by omega
      subst this
      change (scanA (areaOf V half 0)).1 = [] ∨ scanEp (areaOf V half 0) < ep at ho
      rw [if_neg (by simp only [hs, hrs', Bool.and_false]; decide)] at h
      have hu : ((scanA (areaOf V half 0)).1.isEmpty || (!(scanA (areaOf V half 1)).1.isEmpty && decide (scanEp (areaOf V half 0) < scanEp (areaOf V half 1)))) = true := by
        rw [hs, hrs', he]
        rcases ho with ho | ho
        · rw [show (scanA (areaOf V half 0)).1 = [] from ho]; rfl
        · rw [decide_eq_true (show scanEp (areaOf V half 0) < ep from ho)]; simp
      rw [hu] at h
      simp only [if_true, hs, he] at h
      exact h
  · rintro (h1 | ⟨h1, _⟩)
    · omega
    · rcases Nat.lt_or_ge ar 1 with h0 | h0
      · have : ar = 0 := by omega
        subst this
        rw [hs, hrs'] at h1
        cases h1
      · have : ar = 1 := by omega
        subst this
        rw [hs, hrs', Bool.and_false] at h1
        cases h1

section
variable {B : Nat} {w : World} {d : Nat} {vs vp : Value} {e : Ending} {w' : World}
theorem take_ne {k : Nat} (h1 : 1 ≤ k) (h2 : k ≤ recs.length) : recs.take k ≠ [] := fun h => by
  have := congrArg List.length h
  rw [List.length_take, List.length_nil] at this
  omega
/-- Open behind a crash. -/
theorem open_crash (hI : Inv half S P ar ep li en recs safe L X T R l0) (M : List Bool) (h : OpenPost B w d vs vp (crash S P M) [] e w') (hh : half = S.length / 2) (hl : li + 1 ≤ 1073741824) (hN : S.length ≤ 32768) :
    ∃ k j vr li' en', safe ≤ k ∧ k ≤ recs.length ∧ e = .returned (.tuple #[.pointer (some ⟨j, 0, none⟩), .int .i64 0]) ∧ w.heap.size ≤ j ∧ JAt B w' j d vs vp vr (crash S P M) [] ar ep li' en' (recs.take k) ∧ OwnFr w (.slice none 0 0) vr ∧ Ext NoS w w' ∧
      1 ≤ li' ∧ li' ≤ li + 1 ∧ ∃ X' Z l1, Inv half (crash S P M) [] ar ep li' en' (recs.take k) k L X' Z R l1 := by
  obtain ⟨k, en', X', Z, l1, h1, h2, _, h4, h5, h6, h7, h8, _⟩ := hI.crash M hh
  have h0 := hI.hsafe
  obtain ⟨j, vr, he, hj, hjat, hfr, hx⟩ := open_area h (V := crash S P M) (half := half) (ar := ar) (ep := ep) (en := en') (rs := recs.take k) (by rw [crash_nil]) (by rw [crash_length]; exact hh) hI.har
    (right_nil _ (by rw [crash_length]; have := hI.hS; have := hI.hh; omega) (by rw [crash_length]; exact hN)) (by omega) h5 h6 (take_ne (by omega) h2) (.inr h7)
  exact ⟨k, j, vr, (lives (crash S P M) half).1 + 1, en', h1, h2, he, hj, hjat, hfr, hx, by omega, by omega, X', Z, l1, h8 _ (Nat.lt_succ_self _) (by omega)⟩
/-- Open as the disk is. -/
theorem open_inv (hI : Inv half S P ar ep li en recs safe L X T R l0) (h : OpenPost B w d vs vp S P e w') (hh : half = S.length / 2) (hl : li + 1 ≤ 1073741824) (hN : S.length ≤ 32768) :
    ∃ j vr li', e = .returned (.tuple #[.pointer (some ⟨j, 0, none⟩), .int .i64 0]) ∧ w.heap.size ≤ j ∧ JAt B w' j d vs vp vr S P ar ep li' en recs ∧ OwnFr w (.slice none 0 0) vr ∧ Ext NoS w w' ∧
      1 ≤ li' ∧ li' ≤ li + 1 ∧ ∃ X' Z l1, Inv half (crash S P []) [] ar ep li' en recs recs.length L X' Z R l1 := by
  obtain ⟨k, en', X', Z, l1, h1, h2, h3, h4, h5, h6, h7, h8, _⟩ := hI.crash [] hh
  obtain ⟨rfl, rfl⟩ := h3 rfl
  rw [List.take_length] at h5 h8
  have h0 := hI.hsafe
  obtain ⟨j, vr, he, hj, hjat, hfr, hx⟩ := open_area h (V := crash S P []) (half := half) (ar := ar) (ep := ep) (en := en') (rs := recs) rfl hh hI.har
    (hI.right hN) (by omega) h5 h6 (fun h => by rw [h] at h2 h1; simp at h1; omega) (.inr h7)
  exact ⟨j, vr, (lives (crash S P []) half).1 + 1, he, hj, hjat, hfr, hx, by omega, by omega, X', Z, l1, h8 _ (Nat.lt_succ_self _) (by omega)⟩
end
/-- Behind a sync all is safe. -/
theorem Inv.sync (h : Inv half S P ar ep li en recs safe L X T R l0) (hh : half = S.length / 2) : ∃ X' Z l1, Inv half (Go.Proofs.Ytmhhfhmpdpgmbaa.crash S P []) [] ar ep li en recs recs.length L X' Z R l1 := by
  obtain ⟨k, en', X', Z, l1, _, _, h3, _, _, _, _, _, h8⟩ := h.crash [] hh
  obtain ⟨rfl, rfl⟩ := h3 rfl
  have h8 := h8 rfl
  rw [List.take_length] at h8
  exact ⟨X', Z, l1, h8⟩
end
end Go.Proofs.Ytmhhfhmpdpgmbaa
