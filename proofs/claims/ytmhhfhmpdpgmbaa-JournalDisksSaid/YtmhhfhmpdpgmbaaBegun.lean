/- begun. -/
import Derived.Test.YtmhhfhmpdpgmbaaOpen
import Derived.Test.YtmhhfhmpdpgmbaaNew
import Derived.Test.YtmhhfhmpdpgmbaaInv3
import Derived.OwnWalk
namespace Go.Proofs.Ytmhhfhmpdpgmbaa
open Go.RowKit

/-- A new disk of n sectors that was opened. -/
def newS (n : Nat) : List Sec := crash (List.replicate n zeroSec) (recW 0 1 1 0 []) []
theorem newS_length (n : Nat) : (newS n).length = n := by simp [newS, crash_length]
theorem right_zero (n : Nat) (h1 : 4 ≤ n) (h2 : n ≤ 32768) : rightB (List.replicate n zeroSec) [] = true := by
  unfold rightB
  simp [h1, h2]
/-- What Open makes of a new disk. -/
theorem open_new (B : Nat) (w : World) (d : Nat) (vs vp : Value) (n : Nat) (h1 : 4 ≤ n) (h2 : n ≤ 32768) (e : Ending) (w' : World) (h : OpenPost B w d vs vp (List.replicate n zeroSec) [] e w') :
    ∃ j vr, e = .returned (.tuple #[.pointer (some ⟨j, 0, none⟩), .int .i64 0]) ∧ w.heap.size ≤ j ∧ JAt B w' j d vs (.slice none 0 0) vr (newS n) [] 0 1 1 1 [[]] ∧ Ext (fun k => k = d ∨ vs.ownBlock = some k ∨ vp.ownBlock = some k) w w' := by
  unfold OpenPost at h
  rw [if_neg (by rw [right_zero n h1 h2]; decide)] at h
  have hc : crash (List.replicate n zeroSec) [] [] = List.replicate n zeroSec := rfl
  have e1 : (List.replicate n zeroSec).take (n / 2) = List.replicate (n / 2) zeroSec := by rw [List.take_replicate]; congr 1; omega
  have e2 : ((List.replicate n zeroSec).drop (n / 2)).take (n / 2) = List.replicate (n / 2) zeroSec := by rw [List.drop_replicate, List.take_replicate]; congr 1; omega
  simp only [hc, List.length_replicate, e1, e2, lives_zero, scan_zero, List.isEmpty_nil, Bool.and_self, Bool.not_true] at h
  rw [if_neg (by decide), if_pos trivial] at h
  obtain ⟨j, vr, h1, h2, h3, _, h4⟩ := h
  exact ⟨j, vr, h1, h2, h3, h4⟩

set_option maxRecDepth 100000 in
set_option maxHeartbeats 4000000 in
theorem begun_t (sz : Nat) (w : World) (hsz : sz < 256) : Calls Try.prog 17 #[.int .u8 sz] w fun e w' =>
    ∃ j d vs vr, e = .returned (.tuple #[.pointer (some ⟨j, 0, none⟩), .pointer (some ⟨d, 0, none⟩), .bool true]) ∧ w.heap.size ≤ j ∧ w.heap.size ≤ d ∧ JAt w.heap.size w' j d vs (.slice none 0 0) vr (newS (4 + sz % 64)) [] 0 1 1 1 [[]] ∧ Ext NoS w w' := by
  obtain ⟨n, hn⟩ : ∃ n, n = 4 + sz % 64 := ⟨_, rfl⟩
  have hn1 : 4 ≤ n := by omega
  have hn2 : n ≤ 67 := by omega
  rw [← hn]
  have hcv : (4 : Int) + (sz : Int) % 64 = (n : Int) := by omega
  have HN := hide hn
  clear hn
  have hnd := newDisk_t (n : Int) w (by omega)
  have HND := hide hnd
  clear hnd
  go_enter Try.func17, Try.ntmps17
  go_upto_region 4 with (go_at_call 31; refine HND.out.mono ?_; rintro e w1 h1; unfold NewDiskPost at h1; rw [if_neg (by omega)] at h1; obtain ⟨d, vs, rfl, hd, hda, hE1⟩ := h1; rw [Int.toNat_natCast] at hda; have HDA := hide hda; have HE1 := hide hE1; clear hda hE1)
  have hop := open_t w.heap.size w1 d vs (.slice none 0 0) (List.replicate n zeroSec) [] HDA.out (by rw [List.length_replicate]; omega) (by simp) HE1.out.size
  have HOP := hide hop
  clear hop
  go_wp2_with (go_at_call 28; refine HOP.out.mono ?_; rintro e w2 h2; obtain ⟨j, vr, rfl, hj, hjat, hE2⟩ := open_new _ _ _ _ _ n hn1 (by omega) _ _ h2; have HJ := hide hjat; have HE2 := hide hE2; clear h2 hjat hE2)
  go_ret3
  refine ⟨j, d, vs, vr, rfl, by have := HE1.out.size; omega, hd, HJ.out, HE1.out.trans HE2.out fun i hi e => ?_⟩
  rcases e with e | e | e
  · omega
  · have := own_base HDA.out.safe e
    omega
  · simp [Value.ownBlock] at e
end Go.Proofs.Ytmhhfhmpdpgmbaa
