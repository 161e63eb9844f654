/- The chapter's examples: what the disk has. No walk. -/
import Derived.Test.YtmhhfhmpdpgmbaaBegun
import Derived.Test.YtmhhfhmpdpgmbaaUnpack
namespace Go.Proofs.Ytmhhfhmpdpgmbaa

def awL : List UInt8 := [97, 98, 99, 100, 101, 102, 103, 104, 105, 106, 107, 108, 109, 110, 111, 112, 113, 114, 115, 116]
def awP : List (Int × Sec) := recW 0 1 1 1 awL
def awS2 : List Sec := crash (newS 8) awP [false, true]
def awP3 : List (Int × Sec) := recW 0 1 2 1 [120]
def awS4 : List Sec := crash awS2 (awP3 ++ recW 4 2 2 0 [97, 98]) []
/-- A sector by the places of its bytes that are not 0. -/
def secOf (l : List (Nat × UInt8)) : Sec := l.foldl (fun s p => s.set p.1 p.2) zeroSec
theorem aw_new : (newS 8).head? = some (secOf [(3, 1), (7, 1), (12, 3)]) := by decide +kernel
theorem aw_new_len : (newS 8).length = 8 := newS_length 8
theorem aw_P_len : awP.length = 2 := by decide +kernel
theorem aw_P1 : awP[1]? = some (2, secOf [(3, 1), (7, 1), (11, 2), (12, 2), (13, 2), (14, 115), (15, 116)]) := by decide +kernel
theorem aw_S2_len : awS2.length = 8 := by unfold awS2; rw [crash_length]; exact newS_length 8
theorem aw_S4_1 : awS4[1]? = some (secOf [(3, 1), (7, 2), (11, 1), (12, 3), (13, 1), (14, 120)]) := by decide +kernel
theorem aw_S4_4 : awS4[4]? = some (secOf [(3, 2), (7, 2), (12, 3), (13, 2), (14, 97), (15, 98)]) := by decide +kernel
theorem aw_S4_len : awS4.length = 8 := by unfold awS4; rw [crash_length]; exact aw_S2_len
theorem aw_need20 : needN awL.length = 2 := by decide
theorem aw_lives : lives awS2 4 = (1, 1) := by decide +kernel
theorem aw_scanA : scanA (awS2.take 4) = ([[]], 1) := by decide +kernel
theorem aw_scanB : scanA ((awS2.drop 4).take 4) = ([], 0) := by decide +kernel
theorem aw_epA : scanEp (awS2.take 4) = 1 := by decide +kernel
theorem aw_right : rightB awS2 [] = true := by decide +kernel

theorem open_aw (B : Nat) (w : World) (d : Nat) (vs vp : Value) (e : Ending) (w' : World) (h : OpenPost B w d vs vp awS2 [] e w') :
    ∃ j vr, e = .returned (.tuple #[.pointer (some ⟨j, 0, none⟩), .int .i64 0]) ∧ w.heap.size ≤ j ∧ JAt B w' j d vs vp vr awS2 [] 0 1 2 1 [[]] ∧ Ext NoS w w' := by
  unfold OpenPost at h
  rw [if_neg (by rw [aw_right]; decide)] at h
  have hc : crash awS2 [] [] = awS2 := rfl
  simp only [hc, aw_S2_len, show 8 / 2 = 4 from rfl, aw_lives, aw_scanA, aw_scanB] at h
  rw [if_neg (by decide), if_neg (by decide)] at h
  have hu : (([[]] : List (List UInt8)).isEmpty || (!([] : List (List UInt8)).isEmpty && decide (scanEp (awS2.take 4) < scanEp ((awS2.drop 4).take 4)))) = false := rfl
  rw [hu] at h
  simp only [Bool.false_eq_true, if_false, aw_scanA, aw_epA] at h
  obtain ⟨j, vr, h1, h2, h3, _, h4⟩ := h
  exact ⟨j, vr, h1, h2, h3, h4⟩
theorem aw_pack : packB [⟨#[97]⟩, ⟨#[]⟩] = [0, 1, 97, 0, 0] := by decide +kernel
theorem aw_packErr : packErr [⟨#[97]⟩, ⟨#[]⟩] = 0 := by decide +kernel
theorem aw_unpack : unpackB [0, 1] = none := by decide +kernel
end Go.Proofs.Ytmhhfhmpdpgmbaa
