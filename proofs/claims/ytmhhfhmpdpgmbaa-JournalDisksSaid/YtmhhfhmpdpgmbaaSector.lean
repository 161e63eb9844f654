/- (mark).sector. -/
import Derived.Test.YtmhhfhmpdpgmbaaCrash
import Derived.Laws.CopyOwn
namespace Go.Proofs.Ytmhhfhmpdpgmbaa
open Go.RowKit

/-- Four bytes of a number, the most significant one first. -/
def be4 (n : Nat) : List UInt8 := [UInt8.ofNat (n / 16777216), UInt8.ofNat (n / 65536), UInt8.ofNat (n / 256), UInt8.ofNat n]
/-- The bytes of a sector ahead of its payload; the sector. -/
def headOf (e l n f k : Nat) : List UInt8 := be4 e ++ (be4 l ++ (be4 n ++ [UInt8.ofNat f, UInt8.ofNat k]))
def sectorOf (e l n f : Nat) (p : List UInt8) : Sec := headOf e l n f p.length ++ (p ++ List.replicate (18 - p.length) 0)
theorem headOf_length (e l n f k : Nat) : (headOf e l n f k).length = 14 := rfl
theorem sectorOf_length (e l n f : Nat) (p : List UInt8) (h : p.length ≤ 18) : (sectorOf e l n f p).length = 32 := by
  simp [sectorOf, headOf_length]; omega

theorem size1 : (Try.prog.info? 5).map (·.size) = some 1 := by kernel_rfl
/-- The cells as the walk comes to them. -/
theorem head_cells (e l n f k : Nat) (hk : k < 256) : (headOf e l n f k ++ List.replicate 18 0).map bv =
    [.int .u8 (e / 16777216 % 256), .int .u8 (e / 65536 % 256), .int .u8 (e / 256 % 256), .int .u8 (e % 256), .int .u8 (l / 16777216 % 256), .int .u8 (l / 65536 % 256), .int .u8 (l / 256 % 256), .int .u8 (l % 256),
     .int .u8 (n / 16777216 % 256), .int .u8 (n / 65536 % 256), .int .u8 (n / 256 % 256), .int .u8 (n % 256), .int .u8 (f % 256), .int .u8 k, .int .u8 0, .int .u8 0, .int .u8 0, .int .u8 0, .int .u8 0, .int .u8 0,
     .int .u8 0, .int .u8 0, .int .u8 0, .int .u8 0, .int .u8 0, .int .u8 0, .int .u8 0, .int .u8 0, .int .u8 0, .int .u8 0, .int .u8 0, .int .u8 0] := by
  have h : ∀ a : Nat, bv (UInt8.ofNat a) = .int .u8 ((a % 256 : Nat) : Int) := fun a => by simp [bv]
  simp only [headOf, be4, List.cons_append, List.nil_append, List.map_cons, h, List.replicate, List.map_nil]
  rw [Nat.mod_eq_of_lt hk]
  simp [bv]
theorem splice_sector (e l n f : Nat) (p : List UInt8) (h : p.length ≤ 18) : splice ((headOf e l n f p.length ++ List.replicate 18 0).map bv) 14 (p.map bv) = sv (sectorOf e l n f p) := by
  have h1 : ((headOf e l n f p.length).map bv).length = 14 := by rw [List.length_map, headOf_length]
  unfold splice
  rw [List.map_append, List.length_map, List.take_append_of_le_length (by omega), List.take_of_length_le (by omega), List.drop_append, h1, List.drop_of_length_le (by omega), List.nil_append, ← List.map_drop, List.drop_replicate,
    show 14 + p.length - 14 = p.length by omega]
  simp [sv, sectorOf]

set_option maxRecDepth 100000 in
set_option maxHeartbeats 4000000 in
theorem sector_t (K : Nat → Prop) (e l n f : Nat) (p : List UInt8) (vp : Value) (w : World) (hp : Bytes K w vp p) (h18 : p.length ≤ 18)
    (_he : e < 4611686018427387904) (_hl : l < 4611686018427387904) (_hn : n < 4611686018427387904) (_hf : f < 4611686018427387904) :
    Calls Try.prog 45 #[.agg #[.int .i64 e, .int .i64 l, .int .i64 n, .int .i64 f], vp] w fun e' w' => e' = .returned (.agg (sv (sectorOf e l n f p)).toArray) ∧ Ext NoS w w' := by
  obtain ⟨A, c, rfl, hc, hr⟩ := hp
  have HR := hide hr; clear hr
  go_enter Try.func45, Try.ntmps45
  go_wp2
  refine wp_loop_rounds 4 ?_
  rw [rounds_succ]
  go_wp2
  refine wp_loop_rounds 5 ?_
  rw [rounds_succ]; go_wp2
  rw [rounds_succ]; go_wp2
  rw [rounds_succ]; go_wp2
  rw [rounds_succ]; go_wp2
  rw [rounds_succ]; go_wp2
  rw [rounds_succ]
  go_wp2
  refine wp_loop_rounds 5 ?_
  rw [rounds_succ]; go_wp2
  rw [rounds_succ]; go_wp2
  rw [rounds_succ]; go_wp2
  rw [rounds_succ]; go_wp2
  rw [rounds_succ]; go_wp2
  rw [rounds_succ]
  go_wp2
  refine wp_loop_rounds 5 ?_
  rw [rounds_succ]; go_wp2
  rw [rounds_succ]; go_wp2
  rw [rounds_succ]; go_wp2
  rw [rounds_succ]; go_wp2
  rw [rounds_succ]; go_wp2
  have hcur := head_cells e l n f p.length (by omega)
  have HC := hide hcur; clear hcur
  rw [rounds_succ]
  go_wp2_with (((with_reducible show wpList _ _ _ (⟨some 48, _, _, _, _, _⟩ :: _) _ _); refine Hid.out ?_))
  refine hide ?_
  refine wpList_world (fun W => Ext NoS w W ∧ Blk W (w.heap.size + 1 + 1) 53 ((headOf e l n f p.length ++ List.replicate 18 0).map bv).toArray ∧ ∃ z, z.size = 32 ∧ Blk W (w.heap.size + 1) 53 z) ⟨?_, ?_, ?_⟩ ?_
  · exact ((((Ext.refl _ _).alloc _).alloc _).alloc _).alloc _
  · rw [HC.out]
    exact ((Blk.new _ _ _).at_ (by simp)).alloc _
  · exact ⟨_, by rfl, (((Blk.new _ _ _).at_ (by simp)).alloc _).alloc _⟩
  rintro W ⟨hE, hB, z, hz, hZ⟩
  have hl14 : ((headOf e l n f p.length ++ List.replicate 18 0).map bv).length = 32 := by simp [headOf_length]
  refine wpList_copy_splice (o := ⟨some 48, _, _, _, _, _⟩) rfl _ _ 46 46 rfl 5 Try.underlying46 size1 (some ⟨w.heap.size + 1 + 1, 14, none⟩) A 18 18 p.length c rfl rfl (w.heap.size + 1 + 1) 14 (List.map bv (headOf e l n f p.length ++ List.replicate 18 (0 : UInt8))) 53 hB (List.map bv p)
    (by rw [List.length_map]; exact (Nat.min_eq_left h18).symm) (fun hpos => ⟨rfl, ?_⟩) (by rw [hl14, List.length_map]; omega) (fun v hv => sv_one p v hv) (w.heap.size + 1 + 1) _ (Below.refl _ _) (Nat.le_refl _) ?_
  · obtain ⟨b, o, rfl, _, hr⟩ := HR.out (by intro h; rw [h] at hpos; simp at hpos)
    exact ⟨_, rfl, fun j v hv => by rw [Addr.add_mid]; exact range_ext hr hE (fun h => h) j v hv⟩
  · intro w1 hg1 hb1
    have hB1 : Blk w1 (w.heap.size + 1 + 1) 53 (sv (sectorOf e l n f p)).toArray := by
      rw [← splice_sector e l n f p h18]; exact hg1.out
    have hZ1 : Blk w1 (w.heap.size + 1) 53 z := (hb1.block _ (by omega)).trans hZ
    have hE1 : Ext NoS w w1 := ⟨hb1.os.trans hE.os, hb1.tape.trans hE.tape, hb1.output.trans hE.output, Nat.le_trans hE.size hb1.size, fun k hk hn => (hb1.block k (by omega)).trans (hE.block k hk hn)⟩
    have hl32 := sectorOf_length e l n f p h18
    have hr1 : w1.rangeAt (w.heap.size + 1 + 1) 0 (sv (sectorOf e l n f p)) := hB1.all
    have HG := hide hg1.out; clear hg1 hb1
    have hsz : (Try.prog.info? 53).map (·.size) = some (sv (sectorOf e l n f p)).length := by rw [sizeSec, sv_length, hl32]
    have hth := hZ1.there 0 32 (by omega)
    go_wp2_with (first
      | ((with_reducible refine wpList_load_mid (op := ⟨some 49, _, _, _, _, _⟩) rfl 53 _ rfl (w.heap.size + 1 + 1) 0 ?_ (sv (sectorOf e l n f p)) _ hr1 Try.underlying53 rfl hsz ?_); exact rfl)
      | ((with_reducible show wpList _ _ _ (⟨none, .store 53 _ _, _, _, _, _⟩ :: _) _ _); refine Hid.out ?_))
    refine hide ?_
    refine wpList_store_mid rfl 53 _ _ rfl (w.heap.size + 1) 0 (sv (sectorOf e l n f p)).toArray rfl rfl (by simpa [sv_length, hl32] using hth) (by simpa using hsz) (all_oneCell_toArray (sv_one _)) ?_
    have hbf := hZ1.sets_all (vs := sv (sectorOf e l n f p)) (by rw [hz, sv_length, hl32])
    go_wp2
    refine bodyPost_ret (results_cell_row rfl _ _ (w.heap.size + 1) 53 _ (0, 0) _ rfl (show _ = _ from hbf) Try.underlying53 rfl (by simpa using hsz)) rfl ?_
    exact ⟨rfl, hE1.trans (ext_setCells _ _ _ _) (fun i hi e => by omega)⟩
end Go.Proofs.Ytmhhfhmpdpgmbaa
