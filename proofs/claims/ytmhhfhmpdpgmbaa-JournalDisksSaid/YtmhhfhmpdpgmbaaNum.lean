/- The small functions of package journal that only read: number, need. -/
import Derived.Test.YtmhhfhmpdpgmbaaMem
import Derived.Test.YtmhhfhmpdpgmbaaProg
import Derived.Laws.BitsLemmas
namespace Go.Proofs.Ytmhhfhmpdpgmbaa
open Go.RowKit

/-- The number that some bytes are, the most significant one first. -/
def be (l : List UInt8) : Nat := l.foldl (fun n x => n * 256 + x.toNat) 0
theorem be_nil : be [] = 0 := rfl
theorem be_snoc (l : List UInt8) (x : UInt8) : be (l ++ [x]) = be l * 256 + x.toNat := by simp [be]
theorem be_lt (l : List UInt8) : be l < 256 ^ l.length := by
  suffices h : ∀ (r : List UInt8), be r.reverse < 256 ^ r.length by simpa using h l.reverse
  intro r
  induction r with
  | nil => simp [be]
  | cons x r ih =>
    rw [List.reverse_cons, be_snoc, List.length_cons, Nat.pow_succ]
    have := x.toNat_lt
    omega
theorem be_lt4 (l : List UInt8) (h : l.length ≤ 4) : be l < 4294967296 :=
  Nat.lt_of_lt_of_le (be_lt l) (Nat.le_trans (Nat.pow_le_pow_right (by omega) h) (by decide))
theorem be_take_succ (l : List UInt8) (k : Nat) (h : k < l.length) : be (l.take (k + 1)) = be (l.take k) * 256 + l[k].toNat := by
  rw [List.take_succ_eq_append_getElem h, be_snoc]

theorem or_shift (a x : Nat) (hx : x < 256) : (a * 256) ||| x = a * 256 + x := by
  have := Nat.shiftLeft_add_eq_or_of_lt (b := x) (i := 8) (by simpa using hx) a
  rw [Nat.shiftLeft_eq] at this
  exact this.symm
theorem ofInt_i64 (a : Nat) (ha : a < 9223372036854775808) : (BitVec.ofInt 64 (a : Int)).toNat = a := by
  rw [BitVec.ofInt_natCast, BitVec.toNat_ofNat]; exact Nat.mod_eq_of_lt (by omega)
theorem i64_or_nat (a b : Nat) (ha : a < 9223372036854775808) (hb : b < 9223372036854775808) : bits .or .i64 (a : Int) (b : Int) = ((a ||| b : Nat) : Int) := by
  have hx : a ||| b < 2 ^ 63 := Nat.or_lt_two_pow (by omega) (by omega)
  show IntKind.i64.wrap ((BitVec.ofInt 64 (a : Int) ||| BitVec.ofInt 64 (b : Int)).toNat : Int) = _
  rw [BitVec.toNat_or, ofInt_i64 a ha, ofInt_i64 b hb, IntKind.wrap_i64]
  omega
theorem i64_and_nat (a b : Nat) (ha : a < 9223372036854775808) (hb : b < 9223372036854775808) : bits .and .i64 (a : Int) (b : Int) = ((a &&& b : Nat) : Int) := by
  have hx : a &&& b < 2 ^ 63 := Nat.and_lt_two_pow _ (by omega)
  show IntKind.i64.wrap ((BitVec.ofInt 64 (a : Int) &&& BitVec.ofInt 64 (b : Int)).toNat : Int) = _
  rw [BitVec.toNat_and, ofInt_i64 a ha, ofInt_i64 b hb, IntKind.wrap_i64]
  omega
theorem wrap64_nat (a : Nat) (h : a < 9223372036854775808) : wrap64 (a : Int) = (a : Int) := by unfold wrap64; omega
theorem num_step (a x : Nat) (ha : a < 4294967296) (hx : x < 256) : bits .or .i64 ((a : Int) * 256) (x : Int) = ((a * 256 + x : Nat) : Int) := by
  have e : ((a : Int) * 256) = ((a * 256 : Nat) : Int) := by omega
  rw [e, i64_or_nat _ _ (by omega) (by omega), or_shift a x hx]
theorem ret_int {k : IntKind} {a b : Int} (h : a = b) : Ending.returned (.int k a) = .returned (.int k b) := by rw [h]

set_option maxHeartbeats 400000 in
theorem number_t (b o c : Nat) (l : List UInt8) (w : World) (hl : l.length ≤ 4) (hr : w.rangeAt b o (l.map bv)) :
    Calls Try.prog 37 #[.slice (some ⟨b, o, none⟩) l.length c] w fun e w' => e = .returned (.int .i64 (be l : Nat)) ∧ w = w' := by
  go_enter Try.func37, Try.ntmps37
  go_wp2
  go_loop [3, 8] (fun n i => ∃ k : Nat, k ≤ l.length ∧ i = .int .i64 k ∧ n = .int .i64 (be (l.take k) : Nat)) (fun _ i => l.length - (intOf i).toNat)
  case atStart => exact ⟨0, Nat.zero_le _, rfl, rfl⟩
  case round =>
    obtain ⟨k, hk, rfl, rfl⟩ := hrel
    by_cases hlt : k < l.length
    · have hck : w.cell? ⟨b, o + k, none⟩ = some (.int .u8 (l[k].toNat : Int)) := hr k _ (by simp [bv, hlt])
      have hx := l[k].toNat_lt
      have hb := be_lt4 (l.take k) (by simp; omega)
      go_wp2
      go_round
      case rel => exact ⟨k + 1, by omega, by go_num, by rw [be_take_succ l k hlt, num_step _ _ hb hx]⟩
      case measure => simp [intOf]; omega
    · have e : l.take k = l := List.take_of_length_le (by omega)
      have E := hide e; clear e
      go_wp2
      go_ret
      exact ⟨ret_int (by rw [show l.take k = l from E.out]), rfl⟩

theorem number_n (b o c n : Nat) (l : List UInt8) (w : World) (hn : l.length = n) (hl : n ≤ 4) (hr : w.rangeAt b o (l.map bv)) :
    Calls Try.prog 37 #[.slice (some ⟨b, o, none⟩) n c] w fun e w' => e = .returned (.int .i64 (be l : Nat)) ∧ w = w' := by
  subst hn
  exact number_t b o c l w hl hr

/-- How many sectors a record of n bytes has. -/
def needN (n : Nat) : Nat := max 1 ((n + 17) / 18)

set_option maxHeartbeats 400000 in
theorem need_t (A : Option Addr) (n c : Nat) (w : World) (hn : n ≤ 1000000000) :
    Calls Try.prog 33 #[.slice A n c] w fun e w' => e = .returned (.int .i64 (needN n : Nat)) ∧ w = w' := by
  go_enter Try.func33, Try.ntmps33
  go_wp2
  all_goals (go_ret; exact ⟨ret_int (by unfold needN; omega), rfl⟩)
end Go.Proofs.Ytmhhfhmpdpgmbaa
