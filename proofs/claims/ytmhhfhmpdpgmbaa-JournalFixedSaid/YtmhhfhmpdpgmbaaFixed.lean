/- JournalFixed: the walk. -/
import Derived.Test.YtmhhfhmpdpgmbaaCopy
import Derived.Test.YtmhhfhmpdpgmbaaSnapP
namespace Go.Proofs.Ytmhhfhmpdpgmbaa
open Go.RowKit Go.BigFrame

/-- A checkpoint writes the other area alone. -/
theorem check_out (S : List Sec) (half ar ep li : Nat) (b : List UInt8) (hb : needN b.length ≤ half) (i : Nat) (hi : i / half ≠ 1 - ar) (hh : 2 ≤ half) :
    (crash S (recW ((1 - ar) * half : Nat) ep li 0 b) [])[i]? = S[i]? := by
  refine crash_out fun s hs => ?_
  unfold recW at hs
  simp only [List.mem_map, List.mem_range] at hs
  obtain ⟨k, hk, hx⟩ := hs
  injection hx with hx _
  have : i = (1 - ar) * half + k := by omega
  subst this
  apply hi
  rw [Nat.mul_comm, Nat.mul_add_div (by omega), Nat.div_eq_of_lt (by omega), Nat.add_zero]
theorem recW_at (base : Int) (e l n : Nat) (b : List UInt8) (k : Nat) (h : k < (recW base e l n b).length) : (recW base e l n b)[k].1 = base + ((n + k : Nat) : Int) := by
  simp [recW]

set_option maxRecDepth 100000 in
set_option maxHeartbeats 8000000 in
theorem fixed_t (sz : Nat) (A : Option Addr) (n c : Nat) (st : Nat → St) (w : World) (hsz : sz < 256) (hst : StepsAt w A n st) (hn : n ≤ 9223372036854775807) :
    Calls Try.prog 5 #[.int .u8 sz, .slice A n c] w fun e w' => e = .returned (.bool true) ∧ Ext NoS w w' := by
  have HST := hide hst
  clear hst
  obtain ⟨B, hB⟩ : ∃ B, B = w.heap.size := ⟨_, rfl⟩
  have HB := hide hB
  obtain ⟨N, hN⟩ : ∃ N, N = 4 + sz % 64 := ⟨_, rfl⟩
  have hbg := begun_t sz w hsz
  rw [← hB, ← hN] at hbg
  have HBG := hide hbg
  have hN4 : 4 ≤ N := by omega
  have hN67 : N ≤ 67 := by omega
  clear hbg hB hN
  go_enter Try.func5, Try.ntmps5
  go_upto_region 4 with (go_at_call 17; refine HBG.out.mono ?_; rintro e w1 ⟨j, d, vs, vr, rfl, hj, hd, hjat, hE1⟩; have HK := hide (Kept.new HB.out hN4 hj hd hjat hE1); clear hjat hE1)
  clear HBG
  have hos := HK.out.jat.disk.safe
  rw [HK.out.hS] at hos
  obtain ⟨As, cs, rfl, _, _⟩ := own_slice hos
  clear hos
  have k0 := HK.out.jat.disk.blk.cell 0
  simp at k0
  obtain ⟨half, hhalf⟩ : ∃ h, h = N / 2 := ⟨_, rfl⟩
  have hq : Int.tdiv (N : Int) 2 = (half : Int) := by rw [hhalf]; rfl
  have HH := hide hhalf
  have hh1 : 2 ≤ half := by omega
  have hh2 : half ≤ 33 := by omega
  have HN2 := hide (show N ≤ 2 * half + 1 by omega)
  clear hhalf
  go_upto_region 6 with fail
  go_loopw [9, 33] (fun v9 v33 wr => ∃ (k ar ep li en safe : Nat) (vp vr : Value) (S : List Sec) (P : List (Int × Sec)) (recs : List (List UInt8)), k ≤ n ∧ k ≤ 20 ∧ v33 = .int .i64 k ∧ v9 = .int .i64 ar ∧ Kept B w j d N k wr (.slice As N cs) vp vr S P ar ep li en recs safe) (fun _ i _ => n - (intOf i).toNat)
  case atStart => exact ⟨0, 0, _, _, _, _, _, _, _, _, _, Nat.zero_le _, by decide, rfl, rfl, HK.out⟩
  case round =>
    clear k0 HK
    obtain ⟨k, ar, ep, li, en, safe, vp, vr, S, P, recs, hk, hk20, rfl, rfl, hkept⟩ := hrel
    have HK := hide hkept
    clear hkept
    by_cases hlt : k < n
    · by_cases h20 : k = 20
      · subst h20
        obtain ⟨b, o, rfl, q0, q1, q2, q3⟩ := HST.out 20 hlt
        have q0 := HK.out.ext.cell q0 (fun h => h)
        have q1 := HK.out.ext.cell q1 (fun h => h)
        have q2 := HK.out.ext.cell q2 (fun h => h)
        have q3 := HK.out.ext.cell q3 (fun h => h)
        go_wp2_with (go_at_call 10; refine (awake_t _).mono ?_; rintro e w' ⟨rfl, hE⟩)
        go_ret
        exact ⟨rfl, (HK.out.ext.alloc _).trans' hE⟩
      · obtain ⟨b, o, rfl, q0, q1, q2, q3⟩ := HST.out k hlt
        have q0 := HK.out.ext.cell q0 (fun h => h)
        have q1 := HK.out.ext.cell q1 (fun h => h)
        have q2 := HK.out.ext.cell q2 (fun h => h)
        have q3 := HK.out.ext.cell q3 (fun h => h)
        have hkl := (st k).hl
        have hkm := (st k).hm
        have hkk := (st k).hk
        obtain ⟨sk, hsk⟩ : ∃ x, x = (st k).k := ⟨_, rfl⟩
        obtain ⟨sl, hsl⟩ : ∃ x, x = (st k).l := ⟨_, rfl⟩
        obtain ⟨sm, hsm⟩ : ∃ x, x = (st k).m := ⟨_, rfl⟩
        obtain ⟨so, hso⟩ : ∃ x, x = (st k).lo := ⟨_, rfl⟩
        rw [← hsk] at q0 hkk
        rw [← hsl] at q1 hkl
        rw [← hsm] at q2 hkm
        rw [← hso] at q3
        clear hsk hsl hsm hso
        have hk20i : ¬ (k : Int) = 20 := by omega
        have hk19 : k ≤ 19 := by omega
        go_upto_region 9 with fail
        refine wp_world (fun W => Ext NoS wr W ∧ Blk W wr.heap.size 45 #[.int .u8 sk, .int .u8 sl, .int .u8 sm, .int .u64 so]) ⟨(Ext.refl _ _).alloc _, Blk.new _ _ _⟩ ?_
        rintro W ⟨hEW, hbW⟩
        obtain ⟨sb, hsb⟩ : ∃ x, x = wr.heap.size := ⟨_, rfl⟩
        rw [← hsb] at hbW ⊢
        have HBW := hide hbW
        have HKW := hide (HK.out.no hEW)
        obtain ⟨har, hen, _, hPl⟩ := HKW.out.har
        rw [← HH.out] at hen
        have hroom := HKW.out.room hN67
        rw [← HH.out] at hroom
        have HROOM := hide hroom
        have hsub : IntKind.i64.wrap ((half : Int) - ((half - en : Nat) : Int)) = (en : Int) := by
          rw [show (half : Int) - ((half - en : Nat) : Int) = (en : Int) by omega]
          exact IntWalk.i64_in _ (by omega)
        clear q0 q1 q2 q3 hbW hEW hsb HK hroom
        go_upto_region 10 with (go_at_call 21; refine HROOM.out.mono ?_; rintro e w2 ⟨rfl, hE2⟩; have HE2 := hide hE2; clear hE2)
        have hb2 := HBW.out.ext HE2.out (fun h => h)
        have g0 := hb2.cell 0
        simp at g0
        have HB2 := hide hb2
        have HK2 := hide (HKW.out.no HE2.out)
        clear hb2 HKW HBW HE2 HROOM hsub
        by_cases hk4 : sk % 4 = 0
        · have hk4i : (sk : Int) % 4 = 0 := by omega
          clear hk4
          go_upto_region 12 with (go_at_call 13; refine (HK2.out.sync HB.out hN67).mono ?_; rintro e w3 ⟨rfl, hk3, hx3⟩; have HB3 := hide (HB2.out.ext hx3 (ne_disk HK2.out.jat HB2.out.bb (by decide) (by decide))); have HK3 := hide hk3; clear hk3 hx3)
          obtain ⟨S3, hS3⟩ : ∃ x, x = crash S P [] := ⟨_, rfl⟩
          rw [← hS3] at HK3
          have k0 := ((Ext.refl NoS w3).alloc (.cells #[] 53)).cell (HK3.out.jat.disk.blk.cell 0) (fun h => h)
          clear HK2 HB2 hS3 g0
          go_wp2_with (at_builtin; refine Hid.out ?_)
          refine hide ?_
          have hos := HK3.out.jat.disk.safe
          rw [HK3.out.hS] at hos
          have hlen := hos.1
          refine wpList_append_any rfl _ _ 22 rfl w3.heap.size 53 _ 32 32 Try.underlying22 infoSec rfl (by decide) _ 0 [] rfl (own_empty w3 53 32) As N cs (S3.flatMap sv) rfl hlen (fun hn => by obtain ⟨b, o, h1, h2⟩ := own_src hos hn; exact ⟨b, o, h1, range_ext h2 ((Ext.refl NoS w3).alloc (.cells #[] 53)) (fun h => h)⟩) (secs_one S3) (by unfold maxLen; omega) (by omega) (by simp) ?_
          intro v13 w4 ho4 hg4 _
          have hE4 := ext_copy hg4
          simp only [Nat.zero_add, List.nil_append] at ho4
          obtain ⟨A13, c13, rfl, _, _⟩ := own_slice ho4
          have HO4 := hide ho4
          have HB4 := hide (HB3.out.ext hE4 (fun h => h))
          have HK4 := hide (HK3.out.no hE4)
          have g0 := HB4.out.cell 0
          have g1 := HB4.out.cell 1
          have g2 := HB4.out.cell 2
          have g3 := HB4.out.cell 3
          simp at g0 g1 g2 g3
          obtain ⟨rb, hrl, -, hrec⟩ := record_b sk sl sm so k w4 hkl hkm (by omega)
          have HREC := hide hrec
          have HB3 := hide (show w3.heap.size ≤ w4.heap.size from hE4.size)
          have HJL := hide (fun (x : Nat) (hx : JS j d (.slice As N cs) (.slice none 0 0) vr x) => js_lt HK3.out.jat hx)
          clear hos hlen ho4 hg4 hE4 HK3 k0 hrec
          go_upto_region 13 with fail
          by_cases hf : needN rb.length ≤ N / 2
          · go_upto_region 14 with (first
              | (go_at_call 18; refine HREC.out.mono ?_; rintro e w5 ⟨A5, c5, rfl, hb5, hE5⟩; have HK5 := hide (HK4.out.no hE5); have hc := (HK5.out.check HB.out hN67 (by omega) _ rb hb5 hrl).1 hf; have HC := hide hc; have HO5 := hide (own_ext HO4.out hE5 (fun _ _ h => h)); have HB5 := hide (HB4.out.ext hE5 (fun h => h)); clear hb5 hE5 hc)
              | (go_at_call 19; refine HC.out.mono ?_; rintro e w6 ⟨rfl, vr6, hk6, _, hx6⟩; have HK6 := hide hk6; have HO6 := hide (own_ext HO5.out hx6 (fun g hg hs => by have := own_base HO5.out hg; have := HJL.out g hs; omega)); clear hk6 hx6))
            obtain ⟨Ag, rfl⟩ : ∃ g, A13 = some ⟨g, 0, none⟩ := by
              rcases HO6.out.2 with ⟨_, h0⟩ | ⟨g, cap, cur, hv, _⟩
              · omega
              · exact ⟨g, by injection hv⟩
            obtain ⟨gs, rfl⟩ : ∃ g, As = some ⟨g, 0, none⟩ := by
              rcases HK6.out.jat.disk.safe.2 with ⟨_, h0⟩ | ⟨g, cap, cur, hv, _⟩
              · have := HK6.out.hS; omega
              · exact ⟨g, by injection hv⟩
            obtain ⟨S6, hS6⟩ : ∃ x, x = crash S3 ([] ++ recW ((1 - ar) * (N / 2) : Nat) (ep + 1) li 0 rb) [] := ⟨_, rfl⟩
            rw [← hS6] at HK6
            have hsame : ∀ i, i / half ≠ 1 - ar → S6[i]? = S3[i]? := fun i hi => by
              rw [hS6, List.nil_append, ← HH.out]
              exact check_out S3 half ar (ep + 1) li rb (by rw [HH.out]; exact hf) i hi hh1
            have HSAME := hide hsame
            have HS3 := hide HK4.out.hS
            have HS32 := hide HK4.out.jat.disk.s32
            clear hS6 hsame HREC HC HO5 HB5 HK5 HB4 HO4 HK4 HJL HB3 g0 g1 g2 g3 hf
            obtain ⟨br, hbr⟩ : ∃ br, br = 1 - ar := ⟨_, rfl⟩
            have hsub : IntKind.i64.wrap (1 - (ar : Int)) = (br : Int) := by
              rw [show (1 : Int) - (ar : Int) = (br : Int) by omega]
              exact IntWalk.i64_in _ (by omega)
            rw [← hbr] at HSAME HK6
            have HBR := hide hbr
            clear hbr
            go_upto_block 2 with fail
            go_cut [] (fun w' => Ext NoS w6 w')
            case first =>
              have k0 := HK6.out.jat.disk.blk.cell 0
              simp at k0
              go_upto_region 15 with fail
              go_loopw [64] (fun v64 w' => ∃ i : Nat, v64 = .int .i64 i ∧ i ≤ N ∧ Ext NoS w6 w') (fun v _ => N - (intOf v).toNat)
              case atStart => exact ⟨0, rfl, Nat.zero_le _, Ext.refl _ _⟩
              case round =>
                obtain ⟨i, rfl, hi, hE⟩ := hrel
                have k0 := hE.cell k0 (fun h => h)
                have HE := hide hE
                clear hE
                by_cases hlt2 : i < N
                · have hlt3 : (i : Int) < (N : Int) := by omega
                  obtain ⟨q, hqd⟩ : ∃ q, q = i / half := ⟨_, rfl⟩
                  have hdiv : Int.tdiv (i : Int) (half : Int) = (q : Int) := by rw [hqd]; rfl
                  have hh0 : ¬ half = 0 := by omega
                  have hqN : q ≤ N := by rw [hqd]; exact Nat.le_trans (Nat.div_le_self _ _) hi
                  by_cases hqb : q = br
                  · subst hqb
                    have HQD := hide hqd
                    clear hqd
                    go_upto_region 17 with fail
                    have hwq : IntKind.i64.wrap (q : Int) = (q : Int) := IntWalk.i64_in _ (by omega)
                    go_quiet (fail)
                    clear hwq
                    go_wp2
                    go_roundw
                    case rel => exact ⟨i + 1, by go_num, hlt2, HE.out.drewN _⟩
                    case measure => simp [intOf]; omega
                  · have hqi : ((q : Int) == (br : Int)) = false := by rw [beq_eq_false_iff_ne]; omega
                    have hS : S6[i]? = S3[i]? := HSAME.out i (by rw [← hqd]; exact hqb)
                    have hi3 : i < S3.length := by rw [HS3.out]; exact hlt2
                    have hi6 : i < S6.length := by rw [HK6.out.hS]; exact hlt2
                    rw [List.getElem?_eq_getElem hi3, List.getElem?_eq_getElem hi6] at hS
                    have hS := Option.some.inj hS
                    obtain ⟨s, hs⟩ : ∃ s, s = S3[i] := ⟨_, rfl⟩
                    have hl1 := secRange (HK6.out.no HE.out).jat.disk.safe HK6.out.jat.disk.s32 rfl hi6 (hS.trans hs.symm)
                    have hl2 := secRange (k := i) (S := S3) (by rw [HS3.out]; exact own_ext HO6.out HE.out (fun _ _ h => h)) HS32.out rfl hi3 hs.symm
                    have h32 := HS32.out _ (List.getElem_mem hi3)
                    rw [← hs] at h32
                    have heq := fun w => equalIn_same w s h32
                    have hsz : (Try.prog.info? 53).map (·.size) = some (sv s).length := by rw [sizeSec, sv_length, h32]
                    have HL1 := hide hl1
                    have HL2 := hide hl2
                    have HSZ := hide hsz
                    have HQD := hide hqd
                    have hqi2 : ((q : Int) != (br : Int)) = true := by rw [bne, hqi]; rfl
                    have hwq : IntKind.i64.wrap (q : Int) = (q : Int) := IntWalk.i64_in _ (by omega)
                    clear hS hs hqd hqb h32 hl1 hl2 hsz
                    go_upto_region 17 with fail
                    refine wp_region_quiet_lit (by kernel_rfl) (by kernel_rfl) ?_
                    repeat (go_big_quiet_step (fail))
                    refine wpQuiet_load_mid (o := ⟨some 80, _, _, _, _, _⟩) rfl 53 _ rfl gs (i * 32) rfl (sv s) _ HL1.out Try.underlying53 rfl HSZ.out ?_
                    simp only [Act.put, List.setIfInBounds_toArray, List.set_cons_zero, List.set_cons_succ]
                    repeat (go_big_quiet_step (fail))
                    refine wpQuiet_load_mid (o := ⟨some 84, _, _, _, _, _⟩) rfl 53 _ rfl Ag (i * 32) rfl (sv s) _ HL2.out Try.underlying53 rfl HSZ.out ?_
                    simp only [Act.put, List.setIfInBounds_toArray, List.set_cons_zero, List.set_cons_succ]
                    repeat (go_big_quiet_step (fail))
                    refine wpQuiet_nil ?_
                    intro _ hw'
                    obtain ⟨nq, hw''⟩ := hw'
                    subst hw''
                    clear hwq
                    go_wp2
                    go_roundw
                    case rel => exact ⟨i + 1, by go_num, hlt2, HE.out.drewN _⟩
                    case measure => simp [intOf]; omega
                · have hin : i = N := by omega
                  subst hin
                  go_wp2
                  go_meet
                  exact HE.out
            case rest =>
              have HEC := hide hcut
              clear hcut
              go_wp2
              go_roundw
              case rel => exact ⟨k + 1, _, _, _, _, _, _, _, _, _, _, hlt, by omega, by go_num, rfl, HK6.out.no HEC.out⟩
              case measure => simp [intOf]; omega
          · go_wp2_with (first
              | (go_at_call 18; refine HREC.out.mono ?_; rintro e w5 ⟨A5, c5, rfl, hb5, hE5⟩; have HK5 := hide (HK4.out.no hE5); have hc := (HK5.out.check HB.out hN67 (by omega) _ rb hb5 hrl).2 hf; have HC := hide hc; clear hb5 hE5 hc)
              | (go_at_call 19; refine HC.out.mono ?_; rintro e w6 ⟨rfl, hx6⟩; have HK6 := hide (HK5.out.no hx6); clear hx6))
            go_roundw
            case rel => exact ⟨k + 1, _, _, _, _, _, _, _, _, _, _, hlt, by omega, by go_num, rfl, HK6.out.up⟩
            case measure => simp [intOf]; omega
        · have hk4i : ¬ (sk : Int) % 4 = 0 := by omega
          clear hk4
          obtain ⟨Ap, cp, rfl, _, _⟩ := own_slice HK2.out.jat.disk.pend
          have k1 := HK2.out.jat.disk.blk.cell 1
          simp at k1
          go_upto_region 22 with fail
          have g1 := HB2.out.cell 1
          have g2 := HB2.out.cell 2
          have g3 := HB2.out.cell 3
          simp at g1 g2 g3
          obtain ⟨rb, hrl, -, hrec⟩ := record_b sk sl sm so k w2 hkl hkm (by omega)
          have HREC := hide hrec
          clear hrec k1
          by_cases hf : needN rb.length ≤ N / 2 - en
          · go_upto_region 23 with (first
              | (go_at_call 18; refine HREC.out.mono ?_; rintro e w5 ⟨A5, c5, rfl, hb5, hE5⟩; have HK5 := hide (HK2.out.no hE5); have hc := (HK5.out.app HB.out hN67 (by omega) _ rb hb5 hrl).1 hf; have HC := hide hc; clear hb5 hE5 hc)
              | (go_at_call 20; refine HC.out.mono ?_; rintro e w6 ⟨rfl, vp6, vr6, hk6, _, _⟩; have HK6 := hide hk6; clear hk6))
            obtain ⟨P6, hP6⟩ : ∃ x, x = P ++ recW (ar * (N / 2) : Nat) ep li en rb := ⟨_, rfl⟩
            rw [← hP6] at HK6
            obtain ⟨base, hbase⟩ : ∃ base, base = ar * half := ⟨_, rfl⟩
            have hat : ∀ m (h : m < P6.length), P.length ≤ m → P6[m].1 = (base : Int) + (en : Int) + (m : Int) - (P.length : Int) := fun m h hm => by
              subst hP6
              rw [List.getElem_append_right hm, recW_at, hbase, HH.out]
              omega
            have hmul : (ar : Int) * (half : Int) = (base : Int) := by rw [hbase]; rfl
            have hb33 : base ≤ 33 := by rw [hbase]; have : ar * half ≤ 1 * half := Nat.mul_le_mul_right _ har; omega
            have hle : P.length ≤ P6.length := by rw [hP6, List.length_append]; omega
            have hP6b := HK6.out.har.2.2.2
            obtain ⟨A6, c6, rfl, hc6, _⟩ := own_slice HK6.out.jat.disk.pend
            have HAT := hide hat
            have HBASE := hide hbase
            clear hP6 hat hbase HREC HC HK5 HK2 HB2 g0 g1 g2 g3 hf
            have k1 := HK6.out.jat.disk.blk.cell 1
            simp at k1
            go_upto_region 24 with fail
            go_loopw [16] (fun v16 w' => ∃ m : Nat, v16 = .int .i64 m ∧ P.length ≤ m ∧ m ≤ P6.length ∧ w6 = w') (fun v _ => P6.length - (intOf v).toNat)
            case atStart => exact ⟨P.length, rfl, Nat.le_refl _, hle, rfl⟩
            case round =>
              obtain ⟨m, rfl, hm1, hm2, rfl⟩ := hrel
              by_cases hlt2 : m < P6.length
              · have hlt3 : (m : Int) < (P6.length : Int) := by omega
                obtain ⟨gp, rfl⟩ : ∃ g, A6 = some ⟨g, 0, none⟩ := by
                  rcases HK6.out.jat.disk.pend.2 with ⟨_, h0⟩ | ⟨g, cap, cur, hv, _⟩
                  · omega
                  · exact ⟨g, by injection hv⟩
                have hel := own_elem HK6.out.jat.disk.pend (fun x hx => by rw [wv_length, HK6.out.jat.disk.p32 x hx]) rfl m hlt2
                have p0 : w6.cell? ⟨gp, m * 33, none⟩ = some (.int .i64 ((base : Int) + (en : Int) + (m : Int) - (P.length : Int))) := by
                  rw [← HAT.out m hlt2 hm1]
                  exact hel 0 _ rfl
                clear hel
                go_wp2
                go_roundw
                case rel => exact ⟨m + 1, by go_num, by omega, hlt2, trivial⟩
                case measure => simp [intOf]; omega
              · have hmn : ¬ (m : Int) < (P6.length : Int) := by omega
                go_wp2
                go_roundw
                case rel => exact ⟨k + 1, _, _, _, _, _, _, _, _, _, _, hlt, by omega, by go_num, rfl, HK6.out⟩
                case measure => simp [intOf]; omega
          · go_wp2_with (first
              | (go_at_call 18; refine HREC.out.mono ?_; rintro e w5 ⟨A5, c5, rfl, hb5, hE5⟩; have HK5 := hide (HK2.out.no hE5); have hc := (HK5.out.app HB.out hN67 (by omega) _ rb hb5 hrl).2 hf; have HC := hide hc; clear hb5 hE5 hc)
              | (go_at_call 20; refine HC.out.mono ?_; rintro e w6 ⟨rfl, hx6⟩; have HK6 := hide (HK5.out.no hx6); clear hx6))
            go_roundw
            case rel => exact ⟨k + 1, _, _, _, _, _, _, _, _, _, _, hlt, by omega, by go_num, rfl, HK6.out.up⟩
            case measure => simp [intOf]; omega
    · have hkn : k = n := by omega
      subst hkn
      go_wp2_with (go_at_call 10; refine (awake_t _).mono ?_; rintro e w' ⟨rfl, hE⟩)
      go_ret
      exact ⟨rfl, HK.out.ext.trans' hE⟩
end Go.Proofs.Ytmhhfhmpdpgmbaa
