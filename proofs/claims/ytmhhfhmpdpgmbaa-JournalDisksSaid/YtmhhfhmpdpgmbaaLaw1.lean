/- The laws' own functions: lost, record. -/
import Derived.Test.YtmhhfhmpdpgmbaaOpen0
namespace Go.Proofs.Ytmhhfhmpdpgmbaa
open Go.RowKit

/-- Is a write lost? -/
def lostBit (m : Int) (i : Nat) : Bool := bits .and .u64 (m / 2 ^ (i % 64)) 1 == 1
def lostL (m : Int) (n : Nat) : List Bool := (List.range n).map (lostBit m)
theorem lostL_length (m : Int) (n : Nat) : (lostL m n).length = n := by simp [lostL]
theorem lostL_succ (m : Int) (n : Nat) : lostL m (n + 1) = lostL m n ++ [lostBit m n] := by simp [lostL, List.range_succ]
theorem infoBool : (Try.prog.info? 4).map (fun i => (i.zero, i.size, i.bytes)) = some (some (.bool false), 1, 1) := by kernel_rfl

set_option maxRecDepth 100000 in
set_option maxHeartbeats 4000000 in
theorem lost_t (m : Nat) (n : Nat) (w : World) (_hm : m < 18446744073709551616) (hn : n ≤ 1000000) :
    Calls Try.prog 11 #[.int .u64 m, .int .i64 n] w fun e w' => ∃ v, e = .returned v ∧ w'.ownsRow w.heap.size 4 1 v n ((lostL m n).map Value.bool) ∧ Ext NoS w w' := by
  go_enter Try.func11, Try.ntmps11
  go_wp2
  go_loopw [5, 6] (fun v5 v6 wr => ∃ k : Nat, k ≤ n ∧ v6 = .int .i64 k ∧ wr.ownsRow w.heap.size 4 1 v5 k ((lostL m k).map Value.bool) ∧ Ext NoS w wr) (fun _ i _ => n - (intOf i).toNat)
  case atStart => exact ⟨0, Nat.zero_le _, rfl, World.ownsRow_nil _ _ _ _, Ext.refl _ _⟩
  case round =>
    obtain ⟨k, hk, rfl, ho, hE⟩ := hrel
    have HO := hide ho
    have HE := hide hE
    clear ho hE
    by_cases hlt : k < n
    · go_wp2_with (at_builtin; refine Hid.out ?_)
      refine hide ?_
      refine wpList_append_any rfl _ _ 28 rfl w.heap.size 4 _ 1 1 Try.underlying28 infoBool rfl (by decide) _ k _ rfl (own_ext HO.out ((Ext.refl NoS wr).alloc _) (fun _ _ h => h)) (some ⟨wr.heap.size, 0, none⟩) 1 1 [.bool (lostBit m k)] rfl rfl (fun _ => ⟨_, _, rfl, (Blk.new wr _ _).all⟩) (by simp [Value.oneCell']) (by unfold maxLen; omega) (by omega) (by have := HE.out.size; simp; omega) ?_
      intro v' w6 ho6 hg6 _
      have hg6' := same_own (own_ext HO.out ((Ext.refl NoS wr).alloc (.cells #[.bool (lostBit m k)] 4)) (fun _ _ h => h)) hg6
      have hx6 : Ext (fun x => u5.ownBlock = some x) wr w6 := ((Ext.refl NoS wr).alloc (.cells #[.bool (lostBit m k)] 4)).of_no.grown hg6' (fun g hg => .inl hg)
      have hE6 : Ext NoS w w6 := HE.out.trans hx6 (fun i hi e => by have := own_base HO.out e; omega)
      have hl : (lostL m k).map Value.bool ++ [.bool (lostBit m k)] = (lostL m (k + 1)).map Value.bool := by rw [lostL_succ, List.map_append]; rfl
      rw [hl] at ho6
      have HO6 := hide ho6
      have HE6 := hide hE6
      clear ho6 hE6 hx6 hg6 hg6' hl
      go_wp2
      go_roundw
      case rel => exact ⟨k + 1, hlt, by go_num, HO6.out, HE6.out⟩
      case measure => simp [intOf]; omega
    · have hkn : k = n := by omega
      subst hkn
      go_wp2
      go_ret
      exact ⟨_, rfl, HO.out, HE.out⟩

/-- A record as the laws make them. -/
def recByte (mk n i : Nat) : UInt8 := UInt8.ofNat (mk + 7 * i + n)
def recB (len mk n : Nat) : List UInt8 := (List.range (len % 61)).map (recByte mk n)
theorem recB_length (len mk n : Nat) : (recB len mk n).length = len % 61 := by simp [recB]

set_option maxRecDepth 100000 in
set_option maxHeartbeats 4000000 in
theorem record_t (k l mk : Nat) (lo : Int) (n : Nat) (w : World) (hl : l < 256) (_hmk : mk < 256) (hn : n ≤ 1000) :
    Calls Try.prog 18 #[.agg #[.int .u8 k, .int .u8 l, .int .u8 mk, .int .u64 lo], .int .i64 n] w fun e w' => ∃ v, e = .returned v ∧ w'.ownsRow w.heap.size 5 1 v (l % 61) ((recB l mk n).map bv) ∧ Ext NoS w w' := by
  have hlm : l % 61 < 61 := Nat.mod_lt _ (by decide)
  have hc : Int.tmod (l : Int) 61 = ((l % 61 : Nat) : Int) := rfl
  obtain ⟨m, hm⟩ : ∃ m, m = l % 61 := ⟨_, rfl⟩
  have hB : recB l mk n = (List.range m).map (recByte mk n) := by rw [hm]; rfl
  rw [← hm] at hc hlm
  rw [hB, ← hm]
  have HM := hide hm
  clear hm hB
  go_enter Try.func18, Try.ntmps18
  go_wp2
  refine wp_world (fun W => Ext NoS w W ∧ Blk W w.heap.size 45 #[.int .u8 k, .int .u8 l, .int .u8 mk, .int .u64 lo]) ⟨(Ext.refl _ _).alloc _, Blk.new _ _ _⟩ ?_
  rintro W ⟨hEW, hbW⟩
  have HEW := hide hEW
  clear hEW
  go_loopw [5, 6] (fun v5 v6 wr => ∃ k : Nat, k ≤ m ∧ v6 = .int .i64 k ∧ wr.ownsRow W.heap.size 5 1 v5 k (((List.range k).map (recByte mk n)).map bv) ∧ Ext NoS W wr) (fun _ i _ => m - (intOf i).toNat)
  case atStart => exact ⟨0, Nat.zero_le _, rfl, World.ownsRow_nil _ _ _ _, Ext.refl _ _⟩
  case round =>
    obtain ⟨q, hq, rfl, ho, hE⟩ := hrel
    have hb := hbW.ext hE (fun h => h)
    have c1 := hb.cell 1
    have c2 := hb.cell 2
    simp at c1 c2
    have HO := hide ho
    have HE := hide hE
    clear ho hE hb
    by_cases hlt : q < m
    · go_wp2_with (at_builtin; refine Hid.out ?_)
      refine hide ?_
      have hbyte : Value.int .u8 (((mk : Int) + (7 * (q : Int) + (n : Int))) % 256) = bv (recByte mk n q) := by
        unfold bv recByte
        congr 1
        rw [show (UInt8.ofNat (mk + 7 * q + n)).toNat = (mk + 7 * q + n) % 256 by simp]
        omega
      rw [hbyte]
      refine wpList_append_any rfl _ _ 46 rfl W.heap.size 5 _ 1 1 Try.underlying46 infoB rfl (by decide) _ q _ rfl (own_ext HO.out ((Ext.refl NoS wr).alloc _) (fun _ _ h => h)) (some ⟨wr.heap.size, 0, none⟩) 1 1 [bv (recByte mk n q)] rfl rfl (fun _ => ⟨_, _, rfl, (Blk.new wr _ _).all⟩) (by simp [Value.oneCell', bv]) (by unfold maxLen; omega) (by omega) (by have := HE.out.size; simp; omega) ?_
      intro v' w6 ho6 hg6 _
      have hg6' := same_own (own_ext HO.out ((Ext.refl NoS wr).alloc (.cells #[bv (recByte mk n q)] 5)) (fun _ _ h => h)) hg6
      have hx6 : Ext (fun x => u5.ownBlock = some x) wr w6 := ((Ext.refl NoS wr).alloc (.cells #[bv (recByte mk n q)] 5)).of_no.grown hg6' (fun g hg => .inl hg)
      have hE6 : Ext NoS W w6 := HE.out.trans hx6 (fun i hi e => by have := own_base HO.out e; omega)
      have hl : ((List.range q).map (recByte mk n)).map bv ++ [bv (recByte mk n q)] = ((List.range (q + 1)).map (recByte mk n)).map bv := by simp [List.range_succ]
      rw [hl] at ho6
      have HO6 := hide ho6
      have HE6 := hide hE6
      clear ho6 hE6 hx6 hg6 hg6' hl hbyte
      go_wp2
      go_roundw
      case rel => exact ⟨q + 1, hlt, by go_num, HO6.out, HE6.out⟩
      case measure => simp [intOf]; omega
    · have hkn : q = m := by omega
      subst hkn
      go_wp2
      go_ret
      exact ⟨_, rfl, own_low HO.out HEW.out.size, HEW.out.trans' HE.out⟩
end Go.Proofs.Ytmhhfhmpdpgmbaa
