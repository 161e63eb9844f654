/- read: what a sector has. -/
import Derived.Test.YtmhhfhmpdpgmbaaEq
import Derived.Deep.DeepCutAuto
namespace Go.Proofs.Ytmhhfhmpdpgmbaa
open Go.RowKit

/-- Is a sector not marked, by its head? -/
def badHead (e l f n : Nat) : Bool := decide (18 < n) || decide (3 < f) || (decide (f &&& 2 = 0) && decide (n < 18)) || decide (min e l < 1) || decide (1073741824 < max e l)
/-- What a sector has: epoch, life, flags; its payload; whether it is marked. -/
def sEpoch (s : Sec) : Nat := be (s.take 4)
def sLife (s : Sec) : Nat := be ((s.drop 4).take 4)
def sFlags (s : Sec) : Nat := (s.getD 12 0).toNat
def sLen (s : Sec) : Nat := (s.getD 13 0).toNat
def sBad (s : Sec) : Bool := badHead (sEpoch s) (sLife s) (sFlags s) (sLen s)
def sPay (s : Sec) : List UInt8 := (s.drop 14).take (sLen s)
def readMark (s : Sec) (i : Nat) : Value := if sBad s then .agg #[.int .i64 0, .int .i64 0, .int .i64 0, .int .i64 0] else .agg #[.int .i64 (sEpoch s : Nat), .int .i64 (sLife s : Nat), .int .i64 i, .int .i64 (sFlags s : Nat)]
def readPay (s : Sec) : List UInt8 := if sBad s then [] else sPay s
def readOk (s : Sec) (i : Nat) : Bool := !sBad s && decide (sectorOf (sEpoch s) (sLife s) i (sFlags s) (sPay s) = s)

def ReadPost (s : Sec) (i : Nat) (w : World) (e : Ending) (w' : World) : Prop :=
  ∃ v, e = .returned (.tuple #[readMark s i, v, .bool (readOk s i)]) ∧ Bytes (fun b => w.heap.size ≤ b) w' v (readPay s) ∧ Ext NoS w w'

theorem sizeMark : (Try.prog.info? 85).map (·.size) = some 4 := by kernel_rfl
theorem and2 (f : Nat) (h : f < 256) : bits .and .i64 (f : Int) 2 = ((f &&& 2 : Nat) : Int) := i64_and_nat f 2 (by omega) (by omega)

set_option maxRecDepth 100000 in
set_option maxHeartbeats 4000000 in
theorem read_t (s : Sec) (i : Nat) (w : World) (hs : s.length = 32) (hi : i < 4611686018427387904) :
    Calls Try.prog 40 #[.agg (sv s).toArray, .int .i64 i] w (ReadPost s i w) := by
  have he4 : (s.take 4).length = 4 := by simp [hs]
  have hl4 : ((s.drop 4).take 4).length = 4 := by simp [hs]
  have he := be_lt4 (s.take 4) (by omega)
  have hl := be_lt4 ((s.drop 4).take 4) (by omega)
  have hf := (s.getD 12 0).toNat_lt
  have hn := (s.getD 13 0).toNat_lt
  have HS := hide hs; clear hs
  have HE4 := hide he4; clear he4
  have HL4 := hide hl4; clear hl4
  go_enter Try.func40, Try.ntmps40
  go_upto_region 1 with fail
  refine wp_world (fun W => Ext NoS w W ∧ Blk W w.heap.size 53 (sv s).toArray ∧ Blk W (w.heap.size + 1) 85 #[.int .i64 0, .int .i64 0, .int .i64 0, .int .i64 0]) ⟨?_, ?_, ?_⟩ ?_
  · exact ((Ext.refl _ _).alloc _).alloc _
  · exact (Blk.new _ _ _).alloc _
  · exact (Blk.new _ _ _).at_ (by simp)
  rintro W ⟨hE, hB, hM⟩
  have r0 : W.rangeAt w.heap.size 0 ((s.take 4).map bv) := by
    have := range_take hB.all 4
    rwa [sv, ← List.map_take] at this
  have r4 : W.rangeAt w.heap.size 4 (((s.drop 4).take 4).map bv) := by
    have := range_take (range_drop hB.all 4) 4
    rwa [sv, ← List.map_drop, ← List.map_take, Nat.zero_add] at this
  have r12 : W.cell? ⟨w.heap.size, 12, none⟩ = some (.int .u8 (s.getD 12 0).toNat) := by
    rw [hB.cell]
    have := HS.out
    simp [sv, bv, this]
  have r13 : W.cell? ⟨w.heap.size, 13, none⟩ = some (.int .u8 (s.getD 13 0).toNat) := by
    rw [hB.cell]
    have := HS.out
    simp [sv, bv, this]
  obtain ⟨f, hf0⟩ : ∃ f, f = (s.getD 12 0).toNat := ⟨_, rfl⟩
  obtain ⟨n, hn0⟩ : ∃ n, n = (s.getD 13 0).toNat := ⟨_, rfl⟩
  rw [← hf0] at r12 hf
  rw [← hn0] at r13 hn
  have HF := hide hf0; clear hf0
  have HN := hide hn0; clear hn0
  have hwf : IntKind.i64.wrap (f : Int) = (f : Int) := IntWalk.i64_in _ (by omega)
  go_cut [7] (fun v7 w' => Ext NoS W w' ∧ ∃ b, v7 = .pointer (some ⟨b, 0, none⟩) ∧ w.heap.size + 1 < b ∧ Blk w' b 85 #[.int .i64 (sEpoch s : Nat), .int .i64 (sLife s : Nat), .int .i64 i, .int .i64 (f : Nat)])
  case first =>
    have keepS : ∀ w', Ext NoS W w' → Ext NoS W w' ∧ w'.rangeAt w.heap.size 0 ((s.take 4).map bv) ∧ w'.rangeAt w.heap.size 4 (((s.drop 4).take 4).map bv) ∧ w'.cell? ⟨w.heap.size, 12, none⟩ = some (.int .u8 (f : Nat)) :=
      fun w' h => ⟨h, range_ext r0 h (fun h => h), range_ext r4 h (fun h => h), h.cell r12 (fun h => h)⟩
    go_region_held3 (fun w' => Ext NoS W w' ∧ w'.rangeAt w.heap.size 0 ((s.take 4).map bv) ∧ w'.rangeAt w.heap.size 4 (((s.drop 4).take 4).map bv) ∧ w'.cell? ⟨w.heap.size, 12, none⟩ = some (.int .u8 (f : Nat)))
      ((refine keepS _ ?_; repeat (first | exact Ext.refl _ _ | exact (‹Ext NoS W _ ∧ _›).1 | refine Ext.drew ?_ | refine Ext.alloc ?_ _ | refine Ext.setCell ?_ (.inr ?_) _ | (simp; done))))
      (first
        | (go_at_call 37; ((with_reducible refine (number_n _ 0 _ 4 (s.take 4) _ HE4.out (by decide) ?_).mono ?_); (exact (‹Ext NoS W _ ∧ World.rangeAt _ _ _ _ ∧ World.rangeAt _ _ _ _ ∧ _›).2.1); rintro e w' ⟨rfl, rfl⟩))
        | (go_at_call 37; ((with_reducible refine (number_n _ 4 _ 4 ((s.drop 4).take 4) _ HL4.out (by decide) ?_).mono ?_); (exact (‹Ext NoS W _ ∧ World.rangeAt _ _ _ _ ∧ World.rangeAt _ _ _ _ ∧ _›).2.2.1); rintro e w' ⟨rfl, rfl⟩)))
    all_goals
      go_wp2_with fail
      go_meet
      exact ⟨((Ext.refl _ _).alloc _).drew, _, rfl, by have := hM.lt; omega, Blk.new W _ _⟩
  case rest =>
    clear hwf
    obtain ⟨hE2, b, rfl, hb, hB2⟩ := hcut
    have q13 := hE2.cell r13 (fun h => h)
    have m0 := hB2.cell 0
    have m1 := hB2.cell 1
    have m3 := hB2.cell 3
    simp at m0 m1 m3
    obtain ⟨e, hse⟩ : ∃ e, e = sEpoch s := ⟨_, rfl⟩
    obtain ⟨l, hsl⟩ : ∃ l, l = sLife s := ⟨_, rfl⟩
    rw [← hse] at m0
    rw [← hsl] at m1
    have he' : e < 4294967296 := by rw [hse]; exact he
    have hl' : l < 4294967296 := by rw [hsl]; exact hl
    have HSE := hide hse; clear hse he
    have HSL := hide hsl; clear hsl hl
    have hand := and2 f (by omega)
    have hM2 : Blk wc (w.heap.size + 1) 85 _ := hM.ext hE2 (fun h => h)
    have k0 := hM2.cell 0
    have k1 := hM2.cell 1
    have k2 := hM2.cell 2
    have k3 := hM2.cell 3
    have fr := fun i => hM2.frozen i
    simp at k0 k1 k2 k3
    clear r0 r4 r12 r13 hM
    have HB2 := hide hB2; clear hB2
    have HM2 := hide hM2; clear hM2
    have HE2 := hide hE2; clear hE2
    have HB := hide hB; clear hB
    go_upto_region 3 with fail
    go_cut [54] (fun v54 w' => v54 = .bool (badHead e l f n) ∧ wc = w')
    case first =>
      go_wp2
      all_goals
        go_meet
        refine ⟨congrArg Value.bool ?_, rfl⟩
        rw [Bool.eq_iff_iff]
        simp only [badHead, Bool.or_eq_true, Bool.and_eq_true, decide_eq_true_eq, true_iff]
        omega
    case rest =>
      clear hand
      obtain ⟨rfl, rfl⟩ := hcut
      by_cases hbad : badHead e l f n = true
      · rw [hbad]
        have HBAD := hide hbad
        clear hbad
        go_wp2
        have hM4 := (((HM2.out.set 0 (.int .i64 0)).set 1 (.int .i64 0)).set 2 (.int .i64 0)).set 3 (.int .i64 0)
        refine bodyPost_ret (results_cell2 rfl _ _ (w.heap.size + 1) 85 _ _ rfl hM4 Try.underlying85 rfl sizeMark) rfl ?_
        have hS : sBad s = true := by
          have := HBAD.out
          rw [HSE.out, HSL.out, HF.out, HN.out] at this
          exact this
        refine ⟨.slice none 0 0, ?_, ?_, ?_⟩
        · rw [readMark, if_pos hS, readOk, hS]
          rfl
        · rw [readPay, if_pos hS]
          exact Bytes.nil _ _
        · exact (hE.trans' HE2.out).trans ((((ext_setCell _ _ 0 _).trans' (ext_setCell _ _ 1 _)).trans' (ext_setCell _ _ 2 _)).trans' (ext_setCell _ _ 3 _)) (fun i hi e => by omega)
      · have hbad' : badHead e l f n = false := by simpa using hbad
        rw [hbad']
        have hn18 : n ≤ 18 := by
          unfold badHead at hbad'
          simp only [Bool.or_eq_false_iff, decide_eq_false_iff_not] at hbad'
          omega
        have HBAD := hide hbad'
        clear hbad hbad'
        have hs1 : (14 : Int) ≤ 14 + (n : Int) := by omega
        have hs2 : (14 : Int) + (n : Int) ≤ 32 := by omega
        have hpl : ((s.drop 14).take n).length = n := by have := HS.out; simp [this]; omega
        have hr14 : wc.rangeAt w.heap.size 14 (((s.drop 14).take n).map bv) := by
          have := range_take (range_drop (range_ext HB.out.all HE2.out (fun h => h)) 14) n
          rwa [sv, ← List.map_drop, ← List.map_take, Nat.zero_add] at this
        obtain ⟨p, hp⟩ : ∃ p, p = (s.drop 14).take n := ⟨_, rfl⟩
        rw [← hp] at hpl hr14
        have HP := hide hp; clear hp
        have hbyt : Bytes (fun _ => True) wc (.slice (some ⟨w.heap.size, 14, none⟩) n 18) p := ⟨_, _, by rw [hpl], by omega, fun _ => ⟨_, _, rfl, trivial, hr14⟩⟩
        have HPL := hide hpl; clear hpl
        go_wp2_with ((go_at_call 36; ((with_reducible refine (cloneB_t _ _ _ p hbyt ?_).mono ?_); (have := HPL.out; omega); refine Hid.out ?_)))
        refine hide ?_
        rintro en w1 ⟨v1, rfl, ho1, hE1⟩
        clear k0 k1 k2 k3 fr q13 hbyt hr14
        have hM3 : Room w1 (w.heap.size + 1) 85 4 := ⟨_, HM2.out.ext hE1 (fun h => h), rfl⟩
        have m0 := hE1.cell m0 (fun h => h)
        have m1 := hE1.cell m1 (fun h => h)
        have m3 := hE1.cell m3 (fun h => h)
        have m2 := hE1.cell (HB2.out.cell 2) (fun h => h)
        have rs := range_ext (range_ext HB.out.all HE2.out (fun h => h)) hE1 (fun h => h)
        have hMlt := HM2.out.lt
        have HO1 := hide ho1; clear ho1
        have HE1 := hide hE1; clear hE1
        go_upto_region 6 with fail
        have hbp : Bytes (fun b => wc.heap.size ≤ b) w1 v1 p := by
          have := HO1.out
          rw [show p.length = p.length from rfl] at this
          exact Bytes.of_own this
        have HBP := hide hbp; clear hbp
        have hS32 : (sectorOf e l i f p).length = 32 := sectorOf_length _ _ _ _ _ (by have := HPL.out; omega)
        have hse := fun w => run_eql_secs w (sectorOf e l i f p) s hS32 HS.out
        clear hS32
        have hu53 := Try.underlying53
        have hsz53 : (Try.prog.info? 53).map (·.size) = some (sv s).length := by rw [sizeSec, sv_length, HS.out]
        have keepS : ∀ w', Ext (fun k => k = w.heap.size + 1) w1 w' → Room w' (w.heap.size + 1) 85 4 →
            (Ext (fun k => k = w.heap.size + 1) w1 w' ∧ Room w' (w.heap.size + 1) 85 4) ∧ w'.cell? ⟨b, 0, none⟩ = some (.int .i64 e) ∧ w'.cell? ⟨b, 1, none⟩ = some (.int .i64 l) ∧ w'.cell? ⟨b, 2, none⟩ = some (.int .i64 i) ∧ w'.cell? ⟨b, 3, none⟩ = some (.int .i64 f) ∧
            w'.rangeAt w.heap.size 0 (sv s) ∧ w'.cell? ⟨w.heap.size + 1, 0, none⟩ = some (cellOf w' ⟨w.heap.size + 1, 0, none⟩) ∧ w'.cell? ⟨w.heap.size + 1, 1, none⟩ = some (cellOf w' ⟨w.heap.size + 1, 1, none⟩) ∧
            w'.cell? ⟨w.heap.size + 1, 2, none⟩ = some (cellOf w' ⟨w.heap.size + 1, 2, none⟩) ∧ w'.cell? ⟨w.heap.size + 1, 3, none⟩ = some (cellOf w' ⟨w.heap.size + 1, 3, none⟩) ∧
            w'.frozen? ⟨w.heap.size + 1, 0, none⟩ = false ∧ w'.frozen? ⟨w.heap.size + 1, 1, none⟩ = false ∧ w'.frozen? ⟨w.heap.size + 1, 2, none⟩ = false ∧ w'.frozen? ⟨w.heap.size + 1, 3, none⟩ = false :=
          fun w' h hr => ⟨⟨h, hr⟩, h.cell m0 (by show ¬ b = _; omega), h.cell m1 (by show ¬ b = _; omega), h.cell m2 (by show ¬ b = _; omega), h.cell m3 (by show ¬ b = _; omega), range_ext rs h (by omega),
            hr.cell 0 (by decide), hr.cell 1 (by decide), hr.cell 2 (by decide), hr.cell 3 (by decide), hr.frozen 0, hr.frozen 1, hr.frozen 2, hr.frozen 3⟩
        go_cut [5, 6] (fun v5 v6 w' => v5 = v1 ∧ v6 = .bool (sectorOf e l i f p == s) ∧ Ext (fun k => k = w.heap.size + 1) w1 w' ∧ Blk w' (w.heap.size + 1) 85 #[.int .i64 e, .int .i64 l, .int .i64 i, .int .i64 f])
        case first =>
          go_region_held3 (fun w' => (Ext (fun k => k = w.heap.size + 1) w1 w' ∧ Room w' (w.heap.size + 1) 85 4) ∧ w'.cell? ⟨b, 0, none⟩ = some (.int .i64 e) ∧ w'.cell? ⟨b, 1, none⟩ = some (.int .i64 l) ∧ w'.cell? ⟨b, 2, none⟩ = some (.int .i64 i) ∧ w'.cell? ⟨b, 3, none⟩ = some (.int .i64 f) ∧
            w'.rangeAt w.heap.size 0 (sv s) ∧ w'.cell? ⟨w.heap.size + 1, 0, none⟩ = some (cellOf w' ⟨w.heap.size + 1, 0, none⟩) ∧ w'.cell? ⟨w.heap.size + 1, 1, none⟩ = some (cellOf w' ⟨w.heap.size + 1, 1, none⟩) ∧
            w'.cell? ⟨w.heap.size + 1, 2, none⟩ = some (cellOf w' ⟨w.heap.size + 1, 2, none⟩) ∧ w'.cell? ⟨w.heap.size + 1, 3, none⟩ = some (cellOf w' ⟨w.heap.size + 1, 3, none⟩) ∧
            w'.frozen? ⟨w.heap.size + 1, 0, none⟩ = false ∧ w'.frozen? ⟨w.heap.size + 1, 1, none⟩ = false ∧ w'.frozen? ⟨w.heap.size + 1, 2, none⟩ = false ∧ w'.frozen? ⟨w.heap.size + 1, 3, none⟩ = false)
            (first
              | exact keepS _ (Ext.refl _ _).drew hM3
              | exact keepS _ (by assumption) (by assumption)
              | exact keepS _ (‹(Ext _ w1 _ ∧ Room _ _ _ _) ∧ _›).1.1 (‹(Ext _ w1 _ ∧ Room _ _ _ _) ∧ _›).1.2
              | exact keepS _ (((((‹(Ext _ w1 _ ∧ Room _ _ _ _) ∧ _›).1.1.trans' (ext_setCell _ _ 0 _)).trans' (ext_setCell _ _ 1 _)).trans' (ext_setCell _ _ 2 _)).trans' (ext_setCell _ _ 3 _)) (((((‹(Ext _ w1 _ ∧ Room _ _ _ _) ∧ _›).1.2.set 0 _).set 1 _).set 2 _).set 3 _)
              | skip)
            (first
              | (go_at_call 45; ((with_reducible refine (sector_t (fun b => wc.heap.size ≤ b) e l i f p v1 _ ?_ ?_ ?_ ?_ ?_ ?_).mono ?_); (exact Bytes.ext HBP.out (‹(Ext _ w1 _ ∧ Room _ _ _ _) ∧ _›).1.1 (fun b hb _ => by omega)); (have := HPL.out; omega); omega; omega; omega; omega; rintro e' w3 ⟨rfl, hE3⟩; have hx3 := (‹(Ext _ w1 _ ∧ Room _ _ _ _) ∧ _›).1.1.trans' hE3.of_no; have hr3 := (‹(Ext _ w1 _ ∧ Room _ _ _ _) ∧ _›).1.2.ext hE3 (fun h => h))))
          all_goals
            go_wp2_with fail
            go_meet
            exact ⟨rfl, rfl, (‹(Ext _ w1 _ ∧ Room _ _ _ _) ∧ _›).1.1, Room.four (by assumption) _ _ _ _⟩
        case rest =>
          obtain ⟨rfl, rfl, hE4, hM5⟩ := hcut
          have HS2 := hide hse
          clear hse keepS
          go_wp2
          refine bodyPost_ret (results_cell2 rfl _ _ (w.heap.size + 1) 85 _ _ rfl hM5 Try.underlying85 rfl sizeMark) rfl ?_
          have hS : sBad s = false := by
            have := HBAD.out
            rw [HSE.out, HSL.out, HF.out, HN.out] at this
            exact this
          have hp : p = sPay s := by rw [HP.out, HN.out]; rfl
          have e1 := HSE.out
          have e2 := HSL.out
          have e3 : f = sFlags s := HF.out
          refine ⟨u5, ?_, ?_, ?_⟩
          · show Ending.returned (.tuple #[.agg #[.int .i64 e, .int .i64 l, .int .i64 i, .int .i64 f], u5, .bool (sectorOf e l i f p == s)]) = _
            rw [readMark, if_neg (by rw [hS]; decide), readOk, hS, e1, e2, e3, hp]
            have : (sectorOf (sEpoch s) (sLife s) i (sFlags s) (sPay s) == s) = decide (sectorOf (sEpoch s) (sLife s) i (sFlags s) (sPay s) = s) := by
              rw [Bool.eq_iff_iff]; simp
            rw [this]
            rfl
          · rw [readPay, if_neg (by rw [hS]; decide), ← hp]
            refine (Bytes.ext HBP.out hE4 (fun b hb _ => by omega)).mono (fun b _ hb => ?_)
            have := hE.size
            have := HE2.out.size
            omega
          · exact ((hE.trans' HE2.out).trans' HE1.out).trans hE4 (fun k hk e => by omega)
end Go.Proofs.Ytmhhfhmpdpgmbaa
