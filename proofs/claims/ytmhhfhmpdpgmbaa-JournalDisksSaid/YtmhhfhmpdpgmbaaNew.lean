/- NewDisk, right. -/
import Derived.Test.YtmhhfhmpdpgmbaaJour2
namespace Go.Proofs.Ytmhhfhmpdpgmbaa
open Go.RowKit


/-- The zero sector. -/
def zeroSec : Sec := List.replicate 32 0
theorem flat_zero (k : Nat) : (List.replicate k zeroSec).flatMap sv = List.replicate (k * 32) (.int .u8 0) := by
  induction k with
  | zero => rfl
  | succ k ih =>
    rw [List.replicate_succ, List.flatMap_cons, ih, Nat.add_mul, Nat.add_comm (k * 32), ← List.replicate_append_replicate]
    rfl
theorem made_secs (k : Nat) : (madeCells (Value.agg (List.replicate 32 (Value.int .u8 0)).toArray).cells (k * 32)).toList = (List.replicate k zeroSec).flatMap sv := by
  rw [flat_zero]
  refine List.eq_replicate_iff.2 ⟨by simp [madeCells], fun x hx => ?_⟩
  simp only [madeCells, Array.toList_map, List.mem_map] at hx
  obtain ⟨i, _, rfl⟩ := hx
  have h : i % 32 < 32 := Nat.mod_lt _ (by decide)
  have hz : (Value.agg (List.replicate 32 (Value.int .u8 0)).toArray).cells.size = 32 := rfl
  rw [hz]
  show (List.replicate 32 (Value.int IntKind.u8 0)).toArray[i % 32]! = _
  rw [getElem!_pos _ _ (by rw [List.size_toArray, List.length_replicate]; exact h), List.getElem_toArray]
  exact List.getElem_replicate _
def NewDiskPost (n : Int) (w : World) (e : Ending) (w' : World) : Prop :=
  if n < 4 ∨ 32768 < n then e = .returned (.tuple #[.pointer none, .int .i64 2]) ∧ Ext NoS w w'
  else ∃ d vs, e = .returned (.tuple #[.pointer (some ⟨d, 0, none⟩), .int .i64 0]) ∧ w.heap.size ≤ d ∧ DiskAt w.heap.size w' d vs (.slice none 0 0) (List.replicate n.toNat zeroSec) [] ∧ Ext NoS w w'

set_option maxRecDepth 100000 in
set_option maxHeartbeats 2000000 in
theorem newDisk_t (n : Int) (w : World) (h : n.natAbs < 9223372036854775808) : Calls Try.prog 31 #[.int .i64 n] w (NewDiskPost n w) := by
  go_enter Try.func31, Try.ntmps31
  by_cases h1 : n < 4
  · go_wp2
    go_ret2
    unfold NewDiskPost
    rw [if_pos (.inl (by omega))]
    exact ⟨rfl, Ext.refl _ _⟩
  by_cases h2 : 32768 < n
  · go_wp2
    go_ret2
    unfold NewDiskPost
    rw [if_pos (.inr (by omega))]
    exact ⟨rfl, Ext.refl _ _⟩
  obtain ⟨k, rfl⟩ : ∃ k : Nat, n = k := ⟨n.toNat, by omega⟩
  obtain ⟨i, hi, hz0, hz1, hz2⟩ := info_parts infoSec
  have HI := hide hi
  have HZ := hide (And.intro hz0 (And.intro hz1 hz2))
  clear hi hz0 hz1 hz2
  go_wp2_with (at_make; refine Hid.out ?_)
  refine hide ?_
  refine wpList_make_full w rfl _ _ 22 rfl w.heap.size 53 i _ 32 Try.underlying22 HI.out HZ.out.1 HZ.out.2.1 .i64 .i64 _ _ k rfl rfl rfl rfl (by rw [HZ.out.2.2]; omega) (by unfold maxLen; omega) (Nat.le_refl _) ?_
  intro w1 ho hg
  rw [made_secs] at ho
  have hE : Ext NoS w w1 := (Ext.refl NoS w).grown hg (fun g hg => by cases hg)
  have HO := hide ho
  have HE := hide hE
  clear ho hg hE
  go_wp2
  go_ret2
  have h3 : ¬ ((k : Int) < 4 ∨ 32768 < (k : Int)) := by omega
  unfold NewDiskPost
  rw [if_neg h3]
  refine ⟨_, _, rfl, HE.out.size, ⟨Blk.new w1 _ _, ?_, World.ownsRow_nil _ _ _ _, fun s hs => ?_, by simp⟩, HE.out.alloc _⟩
  · simp only [Int.toNat_natCast, List.length_replicate]
    exact own_ext HO.out ((Ext.refl NoS w1).alloc _) (fun _ _ h => h)
  · rw [List.eq_of_mem_replicate hs]; rfl

theorem right_nil_t (w : World) : Calls Try.prog 38 #[.pointer none] w fun e w' => e = .returned (.bool false) ∧ Ext NoS w w' := by
  go_enter Try.func38, Try.ntmps38
  go_wp2
  go_ret
  exact ⟨rfl, (Ext.refl _ _).alloc _⟩
end Go.Proofs.Ytmhhfhmpdpgmbaa
