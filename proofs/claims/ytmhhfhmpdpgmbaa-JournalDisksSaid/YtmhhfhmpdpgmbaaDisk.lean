/- Disks in memory; the small functions on them. -/
import Derived.Test.YtmhhfhmpdpgmbaaNum
namespace Go.Proofs.Ytmhhfhmpdpgmbaa
open Go.RowKit

abbrev Sec := List UInt8
/-- The cells of a sector, of a write. -/
def sv (s : Sec) : List Value := s.map bv
def wv (x : Int × Sec) : List Value := .int .i64 x.1 :: sv x.2
theorem sv_length (s : Sec) : (sv s).length = s.length := by simp [sv]
theorem wv_length (x : Int × Sec) : (wv x).length = x.2.length + 1 := by simp [wv, sv]
theorem sv_one (s : Sec) : ∀ v ∈ sv s, v.oneCell' = true := by
  intro v hv
  simp only [sv, List.mem_map] at hv
  obtain ⟨x, _, rfl⟩ := hv
  rfl
theorem wv_one (x : Int × Sec) : ∀ v ∈ wv x, v.oneCell' = true := by
  intro v hv
  simp only [wv, List.mem_cons] at hv
  rcases hv with rfl | hv
  · rfl
  · exact sv_one _ v hv

theorem sizeSec : (Try.prog.info? 53).map (·.size) = some 32 := by kernel_rfl
theorem sizeWr : (Try.prog.info? 55).map (·.size) = some 33 := by kernel_rfl
theorem infoSec : (Try.prog.info? 53).map (fun i => (i.zero, i.size, i.bytes)) = some (some (.agg (List.replicate 32 (.int .u8 0)).toArray), 32, 32) := by kernel_rfl
theorem infoWr : (Try.prog.info? 55).map (fun i => (i.zero, i.size, i.bytes)) = some (some (.agg (.int .i64 0 :: List.replicate 32 (.int .u8 0)).toArray), 33, 40) := by kernel_rfl

/-- A disk at block d: its sectors S, its pending writes P. -/
structure DiskAt (B : Nat) (w : World) (d : Nat) (vs vp : Value) (S : List Sec) (P : List (Int × Sec)) : Prop where
  blk : Blk w d 25 #[vs, vp]
  safe : w.ownsRow B 53 32 vs S.length (S.flatMap sv)
  pend : w.ownsRow B 55 33 vp P.length (P.flatMap wv)
  s32 : ∀ s ∈ S, s.length = 32
  p32 : ∀ x ∈ P, x.2.length = 32

theorem own_slice {w : World} {B : Nat} {e : TypeId} {size n : Nat} {v : Value} {xs : List Value} (h : w.ownsRow B e size v n xs) : ∃ A c, v = .slice A n c ∧ n ≤ c ∧ c ≤ maxLen := by
  rcases h.2 with ⟨rfl, rfl⟩ | ⟨g, cap, cur, rfl, _, _, h1, h2, _⟩
  · exact ⟨none, 0, rfl, Nat.le_refl _, Nat.zero_le _⟩
  · exact ⟨_, cap, rfl, h1, h2⟩

/-- A block of the disk. -/
def DiskS (d : Nat) (vs : Value) : Nat → Prop := fun k => k = d ∨ vs.ownBlock = some k

/-- What a write does when a disk is synced. -/
def put1 (S : List Sec) (x : Int × Sec) (gone : Bool) : List Sec := if gone = false ∧ 0 ≤ x.1 ∧ x.1 < S.length then S.set x.1.toNat x.2 else S
/-- The sectors of a disk that was synced but for some writes. -/
def crash (S : List Sec) (P : List (Int × Sec)) (L : List Bool) : List Sec := P.zipIdx.foldl (fun S p => put1 S p.1 (L.getD p.2 false)) S
theorem put1_length (S : List Sec) (x : Int × Sec) (g : Bool) : (put1 S x g).length = S.length := by unfold put1; split <;> simp
theorem crash_nil (S : List Sec) (L : List Bool) : crash S [] L = S := rfl
theorem crash_snoc (S : List Sec) (P : List (Int × Sec)) (x : Int × Sec) (L : List Bool) : crash S (P ++ [x]) L = put1 (crash S P L) x (L.getD P.length false) := by
  simp [crash, List.zipIdx_append]
theorem crash_take_succ (S : List Sec) (P : List (Int × Sec)) (L : List Bool) (k : Nat) (h : k < P.length) :
    crash S (P.take (k + 1)) L = put1 (crash S (P.take k) L) P[k] (L.getD k false) := by
  rw [List.take_succ_eq_append_getElem h, crash_snoc, List.length_take, Nat.min_eq_left (by omega)]
theorem crash_length (S : List Sec) (P : List (Int × Sec)) (L : List Bool) : (crash S P L).length = S.length := by
  suffices h : ∀ (Q : List ((Int × Sec) × Nat)) (S : List Sec), (Q.foldl (fun S p => put1 S p.1 (L.getD p.2 false)) S).length = S.length from h _ S
  intro Q
  induction Q with
  | nil => intro S; rfl
  | cons q Q ih => intro S; rw [List.foldl_cons, ih, put1_length]

set_option maxHeartbeats 400000 in
theorem size_t (j d n c : Nat) (A : Option Addr) (w : World) (h1 : w.cell? ⟨j, 0, none⟩ = some (.pointer (some ⟨d, 0, none⟩))) (h2 : w.cell? ⟨d, 0, none⟩ = some (.slice A n c)) (hn : n ≤ 9223372036854775807) :
    Calls Try.prog 34 #[.pointer (some ⟨j, 0, none⟩)] w fun e w' => e = .returned (.int .i64 (n / 2 : Nat)) ∧ w = w' := by
  go_enter Try.func34, Try.ntmps34
  go_wp2
  go_ret
  exact ⟨ret_int (by omega), rfl⟩

theorem none_nil (w : World) : Calls Try.prog 32 #[.pointer none] w fun e w' => e = .returned (.bool true) ∧ w = w' := by
  go_enter Try.func32, Try.ntmps32
  go_wp2
  go_ret
  exact ⟨rfl, rfl⟩
theorem none_no (j d : Nat) (w : World) (h1 : w.cell? ⟨j, 0, none⟩ = some (.pointer (some ⟨d, 0, none⟩))) :
    Calls Try.prog 32 #[.pointer (some ⟨j, 0, none⟩)] w fun e w' => e = .returned (.bool false) ∧ w = w' := by
  go_enter Try.func32, Try.ntmps32
  go_wp2
  go_ret
  exact ⟨rfl, rfl⟩

set_option maxHeartbeats 400000 in
theorem room_t (j d n c en : Nat) (A : Option Addr) (w : World) (h1 : w.cell? ⟨j, 0, none⟩ = some (.pointer (some ⟨d, 0, none⟩))) (h2 : w.cell? ⟨d, 0, none⟩ = some (.slice A n c)) (hn : n ≤ 1000000000)
    (h3 : w.cell? ⟨j, 4, none⟩ = some (.int .i64 en)) (he : en ≤ n / 2) :
    Calls Try.prog 21 #[.pointer (some ⟨j, 0, none⟩)] w fun e w' => e = .returned (.int .i64 (n / 2 - en : Nat)) ∧ ∃ m, w' = w.drewN m := by
  go_enter Try.func21, Try.ntmps21
  go_wp2_with (go_at_call 32; refine (none_no j d _ h1).mono ?_; rintro e w' ⟨rfl, rfl⟩)
  go_quiet ((go_at_call 34; exact quiet_left (size_t j d n c A _ (by exact h1) (by exact h2) (by omega))))
  go_wp2
  go_ret
  exact ⟨ret_int (by omega), _, rfl⟩
end Go.Proofs.Ytmhhfhmpdpgmbaa
