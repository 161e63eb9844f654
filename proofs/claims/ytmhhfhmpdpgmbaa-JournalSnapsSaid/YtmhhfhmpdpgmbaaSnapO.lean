/- What Open finds behind a crash in the middle of a checkpoint, and behind the whole one. No walk. -/
import Derived.Test.YtmhhfhmpdpgmbaaSnapP
namespace Go.Proofs.Ytmhhfhmpdpgmbaa

section
variable {half : Nat} {S : List Sec} {P : List (Int × Sec)} {ar ep li en : Nat} {recs : List (List UInt8)} {safe : Nat} {L X T R : List Sec} {l0 : Nat}
theorem open_snap {B : Nat} {w : World} {d : Nat} {vs vp : Value} {e : Ending} {w' : World} (hI : Inv half S P ar ep li en recs safe L X T R l0) (hh : half = S.length / 2) (b : List UInt8) (hb : needN b.length ≤ half) (hep : ep < 1073741824) (hl : li + 1 ≤ 1073741824) (hN : S.length ≤ 32768) (M : List Bool) {A C V : List Sec}
    (hA : A = crash S (P ++ recW ((1 - ar) * half : Nat) (ep + 1) li 0 b) []) (hC : C = crash S P []) (hV : V = crash S (P ++ diffs A C A.length) M) (h : OpenPost B w d vs vp V [] e w') :
    ∃ rs j vr ar' ep' li' en', e = .returned (.tuple #[.pointer (some ⟨j, 0, none⟩), .int .i64 0]) ∧ w.heap.size ≤ j ∧ JAt B w' j d vs vp vr V [] ar' ep' li' en' rs ∧ Ext NoS w w' ∧ (rs = [b] ∨ ∃ k, safe ≤ k ∧ k ≤ recs.length ∧ rs = recs.take k) := by
  obtain ⟨h1, h2⟩ := hI.snap hh b hb hep M hA hC hV
  have hVl : V.length = S.length := by rw [hV, crash_length]
  have har := hI.har
  have hr : rightB V [] = true := right_nil V (by rw [hVl]; have := hI.hS; have := hI.hh; omega) (by rw [hVl]; exact hN)
  rcases h2 with ⟨k, en', k1, k2, k3, k4, k5⟩ | ⟨k3, k4, k5⟩
  · have h0 := hI.hsafe
    obtain ⟨j, vr, he, hj, hjat, _, hx⟩ := open_area h (V := V) (half := half) (ar := ar) (ep := ep) (en := en') (rs := recs.take k) (by rw [crash_nil]) (by rw [hVl]; exact hh) har hr (by omega) k3 k4 (take_ne (by omega) k2) k5
    exact ⟨_, j, vr, _, _, _, _, he, hj, hjat, hx, .inr ⟨k, k1, k2, rfl⟩⟩
  · have h11 : 1 - (1 - ar) = ar := by omega
    obtain ⟨j, vr, he, hj, hjat, _, hx⟩ := open_area h (V := V) (half := half) (ar := 1 - ar) (ep := ep + 1) (en := needN b.length) (rs := [b]) (by rw [crash_nil]) (by rw [hVl]; exact hh) (by omega) hr (by omega) k3 k4 (by simp) (.inr (by rw [h11]; exact k5))
    exact ⟨_, j, vr, _, _, _, _, he, hj, hjat, hx, .inl rfl⟩
/-- No write is lost: the checkpoint. -/
theorem open_full {B : Nat} {w : World} {d : Nat} {vs vp : Value} {e : Ending} {w' : World} (hI : Inv half S P ar ep li en recs safe L X T R l0) (hh : half = S.length / 2) (b : List UInt8) (hb : needN b.length ≤ half) (hep : ep < 1073741824) (hl : li + 1 ≤ 1073741824) (hN : S.length ≤ 32768) {A : List Sec}
    (hA : A = crash S (P ++ recW ((1 - ar) * half : Nat) (ep + 1) li 0 b) []) (h : OpenPost B w d vs vp A [] e w') :
    ∃ j vr ar' ep' li' en', e = .returned (.tuple #[.pointer (some ⟨j, 0, none⟩), .int .i64 0]) ∧ w.heap.size ≤ j ∧ JAt B w' j d vs vp vr A [] ar' ep' li' en' [b] ∧ Ext NoS w w' := by
  obtain ⟨L2, X2, T2, R2, hI2⟩ := hI.check hh b hb hep
  rw [← hA] at hI2
  have hAl : A.length = S.length := by rw [hA, crash_length]
  obtain ⟨j, vr, li', he, hj, hjat, _, hx, _⟩ := open_inv hI2 h (by rw [hAl]; exact hh) hl (by rw [hAl]; exact hN)
  exact ⟨j, vr, _, _, _, _, he, hj, hjat, hx⟩
theorem crash_full {A C : List Sec} (hC : C = crash S P []) (hl : A.length = S.length) : crash S (P ++ diffs A C A.length) [] = A := by
  rw [crash_append, List.drop_nil, ← hC]
  exact crash_diffs A C (by rw [hC, crash_length]; exact hl)
end
end Go.Proofs.Ytmhhfhmpdpgmbaa
