/- JournalRooms: the walk. -/
import Derived.Test.YtmhhfhmpdpgmbaaStep
namespace Go.Proofs.Ytmhhfhmpdpgmbaa
open Go.RowKit

set_option maxRecDepth 100000 in
set_option maxHeartbeats 8000000 in
theorem rooms_t (sz : Nat) (A : Option Addr) (n c : Nat) (st : Nat → St) (w : World) (hsz : sz < 256) (hst : StepsAt w A n st) (hn : n ≤ 9223372036854775807) :
    Calls Try.prog 4 #[.int .u8 sz, .slice A n c] w fun e w' => e = .returned (.bool true) ∧ Ext NoS w w' := by
  have HST := hide hst
  clear hst
  obtain ⟨B, hB⟩ : ∃ B, B = w.heap.size := ⟨_, rfl⟩
  have HB := hide hB
  obtain ⟨N, hN⟩ : ∃ N, N = 4 + sz % 64 := ⟨_, rfl⟩
  have hbg := begun_t sz w hsz
  rw [← hB, ← hN] at hbg
  have HBG := hide hbg
  have hN4 : 4 ≤ N := by omega
  have hN67 : N ≤ 67 := by omega
  clear hbg hB hN
  go_enter Try.func4, Try.ntmps4
  go_upto_region 4 with (go_at_call 17; refine HBG.out.mono ?_; rintro e w1 ⟨j, d, vs, vr, rfl, hj, hd, hjat, hE1⟩; have HJ := hide hjat; have HE1 := hide hE1; clear hjat hE1)
  clear HBG
  have hSl : (newS N).length = N := newS_length N
  obtain ⟨As, cs, rfl, _, _⟩ := own_slice HJ.out.disk.safe
  have k0 := HJ.out.disk.blk.cell 0
  simp at k0
  rw [hSl] at k0
  obtain ⟨half, hhalf⟩ : ∃ h, h = N / 2 := ⟨_, rfl⟩
  have hq : Int.tdiv (N : Int) 2 = (half : Int) := by rw [hhalf]; rfl
  have HSL := hide hSl
  have HH := hide hhalf
  have hh1 : 2 ≤ half := by omega
  have hh2 : half ≤ 33 := by omega
  clear hSl hhalf
  go_upto_region 7 with fail
  go_loopw [9, 35] (fun v9 v35 wr => ∃ (k en : Nat) (vs vp vr : Value) (S : List Sec) (P : List (Int × Sec)) (ar ep : Nat) (recs : List (List UInt8)), k ≤ n ∧ k ≤ 30 ∧ v35 = .int .i64 k ∧ v9 = .int .i64 (half - en : Nat) ∧ en ≤ half ∧ Small B w j d N k en wr vs vp vr S P ar ep recs) (fun _ i _ => n - (intOf i).toNat)
  case atStart => exact ⟨0, 1, _, _, _, _, _, _, _, _, Nat.zero_le _, by decide, rfl, by first | rfl | (congr 1; omega), by omega, HJ.out, HSL.out, by have := HH.out; omega, by simp, by decide, by decide, by decide, HE1.out⟩
  case round =>
    clear k0 HJ HE1 HSL
    obtain ⟨k, en, vs, vp, vr, S, P, ar, ep, recs, hk, hk30, rfl, rfl, hen, hsm⟩ := hrel
    have HSM := hide hsm
    clear hsm
    by_cases hlt : k < n
    · by_cases h30 : k = 30
      · subst h30
        obtain ⟨b, o, rfl, q0, q1, q2, q3⟩ := HST.out 30 hlt
        have q0 := HSM.out.ext.cell q0 (fun h => h)
        have q1 := HSM.out.ext.cell q1 (fun h => h)
        have q2 := HSM.out.ext.cell q2 (fun h => h)
        have q3 := HSM.out.ext.cell q3 (fun h => h)
        go_wp2_with (go_at_call 10; refine (awake_t _).mono ?_; rintro e w' ⟨rfl, hE⟩)
        go_ret
        exact ⟨rfl, (HSM.out.ext.alloc _).trans' hE⟩
      · obtain ⟨b, o, rfl, q0, q1, q2, q3⟩ := HST.out k hlt
        have q0 := HSM.out.ext.cell q0 (fun h => h)
        have q1 := HSM.out.ext.cell q1 (fun h => h)
        have q2 := HSM.out.ext.cell q2 (fun h => h)
        have q3 := HSM.out.ext.cell q3 (fun h => h)
        have hkl := (st k).hl
        have hkm := (st k).hm
        have hkk := (st k).hk
        obtain ⟨sk, hsk⟩ : ∃ x, x = (st k).k := ⟨_, rfl⟩
        obtain ⟨sl, hsl⟩ : ∃ x, x = (st k).l := ⟨_, rfl⟩
        obtain ⟨sm, hsm⟩ : ∃ x, x = (st k).m := ⟨_, rfl⟩
        obtain ⟨so, hso⟩ : ∃ x, x = (st k).lo := ⟨_, rfl⟩
        rw [← hsk] at q0 hkk
        rw [← hsl] at q1 hkl
        rw [← hsm] at q2 hkm
        rw [← hso] at q3
        clear hsk hsl hsm hso
        have hk30i : ¬ (k : Int) = 30 := by omega
        go_upto_region 9 with fail
        refine wp_world (fun W => Ext NoS wr W ∧ Blk W wr.heap.size 45 #[.int .u8 sk, .int .u8 sl, .int .u8 sm, .int .u64 so]) ⟨(Ext.refl _ _).alloc _, Blk.new _ _ _⟩ ?_
        rintro W ⟨hEW, hbW⟩
        obtain ⟨sb, hsb⟩ : ∃ x, x = wr.heap.size := ⟨_, rfl⟩
        rw [← hsb] at hbW ⊢
        have g0 := hbW.cell 0
        have g1 := hbW.cell 1
        have g2 := hbW.cell 2
        have g3 := hbW.cell 3
        simp at g0 g1 g2 g3
        have hrec := record_t sk sl sm so k W hkl hkm (by omega)
        have HREC := hide hrec
        have HBW := hide hbW
        have HXW := hide (HSM.out.ext.trans' hEW)
        have HJW := hide (HSM.out.jat.no hEW)
        clear q0 q1 q2 q3 hrec hbW hEW hsb
        go_upto_region 11 with (go_at_call 18; refine HREC.out.mono ?_; rintro e w5 ⟨v5, rfl, ho5, hE5⟩; obtain ⟨A5, c5, hv5, _, _⟩ := own_slice ho5; subst hv5; have HO5 := hide ho5; have HE5 := hide hE5; clear ho5 hE5)
        obtain ⟨len, hlen⟩ : ∃ x, x = sl % 61 := ⟨_, rfl⟩
        have hl61 : len ≤ 60 := by have := Nat.mod_lt sl (show 0 < 61 by decide); omega
        obtain ⟨rb, hrb⟩ : ∃ x, x = recB sl sm k := ⟨_, rfl⟩
        have hrl : rb.length = len := by rw [hrb, recB_length, hlen]
        rw [← hlen, ← hrb] at HO5
        rw [← hlen]
        have HRL := hide hrl
        clear hlen hrb hrl HREC g0 g1 g2 g3
        obtain ⟨nd, hnd⟩ : ∃ x, x = needN len := ⟨_, rfl⟩
        have hnd4 : nd ≤ 4 := by rw [hnd]; unfold needN; omega
        have hnd1 : 1 ≤ nd := by rw [hnd]; unfold needN; omega
        have HND := hide hnd
        clear hnd
        go_upto_block 2 with fail
        go_cut [13] (fun v13 w' => v13 = .int .i64 nd ∧ w5 = w')
        case first =>
          go_upto_region 12 with fail
          go_loopw [13] (fun v13 w' => ∃ m : Nat, v13 = .int .i64 m ∧ 1 ≤ m ∧ m ≤ nd ∧ w5 = w') (fun i _ => nd - (intOf i).toNat)
          case atStart => exact ⟨1, rfl, by decide, hnd1, rfl⟩
          case round =>
            obtain ⟨m, rfl, hm1, hm2, rfl⟩ := hrel
            by_cases hlt2 : m * 18 < len
            · have hlt3 : (m : Int) * 18 < (len : Int) := by omega
              have hmn : m + 1 ≤ nd := by have := HND.out; unfold needN at this; omega
              go_wp2
              go_roundw
              case rel => exact ⟨m + 1, by go_num, by omega, hmn, trivial⟩
              case measure => simp [intOf]; omega
            · have hlt3 : ¬ (m : Int) * 18 < (len : Int) := by omega
              have hmn : m = nd := by have := HND.out; unfold needN at this; omega
              subst hmn
              clear hlt2
              go_wp2
              go_meet
              exact ⟨rfl, rfl⟩
        case rest =>
          obtain ⟨rfl, rfl⟩ := hcut
          obtain ⟨m, hmd⟩ : ∃ m, m = nd := ⟨_, rfl⟩
          rw [← hmd]
          rw [← hmd] at hnd4 hnd1 HND
          clear hmd
          have hsm5 : Small B w j d N k en w5 vs vp vr S P ar ep recs := { HSM.out with jat := HJW.out.no HE5.out, ext := HXW.out.trans' HE5.out }
          have hb5 : Bytes (fun x => ByteBlk w5 x) w5 (.slice A5 len c5) rb := by
            have h := HO5.out
            rw [← HRL.out] at h ⊢
            exact (Bytes.of_ownB h).mono (fun x _ h => h.2)
          have hk29 : k ≤ 30 := hk30
          have hck := hsm5.check HB.out hj hd hN67 hk29 (.slice A5 len c5) rb hb5 (by rw [HRL.out]; exact hl61)
          have hap := hsm5.app HB.out hj hd hN67 hk29 (.slice A5 len c5) rb hb5 (by rw [HRL.out]; exact hl61) (by rw [HRL.out, ← HND.out]; exact hnd4)
          rw [HRL.out, ← HND.out, ← HH.out] at hck hap
          have hpl : ∀ base : Int, (P ++ recW base ep 1 en rb).length = P.length + m := fun base => by rw [List.length_append, recW_length, HRL.out, ← HND.out]
          have HPL := hide hpl
          clear hpl
          have HCK := hide hck
          have HAP := hide hap
          have HSM5 := hide hsm5
          have g0 := (HBW.out.ext HE5.out (fun h => h)).cell 0
          simp at g0
          clear hck hap hsm5 hb5 HO5 HJW HXW HSM HRL HND
          have hroom5 := HSM5.out.room hN67
          rw [← HH.out] at hroom5
          by_cases hk6 : sk % 6 = 0
          · have hk6i : (sk : Int) % 6 = 0 := by omega
            clear hk6
            by_cases hf : m ≤ half
            · have hfi : (m : Int) ≤ (half : Int) := by omega
              have hsub : IntKind.i64.wrap ((half : Int) - (m : Int)) = ((half - m : Nat) : Int) := by
                rw [show (half : Int) - (m : Int) = ((half - m : Nat) : Int) by omega]
                exact IntWalk.i64_in _ (by omega)
              have hc := HCK.out.1 hf
              have HC := hide hc
              have HROOM5 := hide hroom5
              clear hc hroom5 HAP HCK hf
              go_upto_region 29 with (go_at_call 19; refine HC.out.mono ?_; rintro e w6 ⟨rfl, vs6, vp6, vr6, S6, P6, ar6, ep6, recs6, hsm6⟩; have hr6 := hsm6.room hN67; rw [← HH.out] at hr6; have HR6 := hide hr6; have HS6 := hide hsm6; clear hr6 hsm6)
              go_wp2_with (go_at_call 21; refine HR6.out.mono ?_; rintro e w7 ⟨rfl, hE7⟩; have HE7 := hide hE7; clear hE7)
              go_roundw
              case rel => exact ⟨k + 1, m, _, _, _, _, _, _, _, _, hlt, by omega, by go_num, rfl, by omega, HS6.out.no HE7.out⟩
              case measure => simp [intOf]; omega
            · have hfi : ¬ (m : Int) ≤ (half : Int) := by omega
              have hc := HCK.out.2 hf
              have HC := hide hc
              clear hc HAP HCK hf hroom5
              go_upto_region 29 with (go_at_call 19; refine HC.out.mono ?_; rintro e w6 ⟨rfl, hE6⟩; have hr6 := (HSM5.out.no hE6).room hN67; rw [← HH.out] at hr6; have HR6 := hide hr6; have HE6 := hide hE6; clear hr6 hE6)
              go_wp2_with (go_at_call 21; refine HR6.out.mono ?_; rintro e w7 ⟨rfl, hE7⟩; have HE7 := hide hE7; clear hE7)
              go_roundw
              case rel => exact ⟨k + 1, en, _, _, _, _, _, _, _, _, hlt, by omega, by go_num, rfl, hen, ((HSM5.out.no HE6.out).no HE7.out).up⟩
              case measure => simp [intOf]; omega
          · have hk6i : ¬ (sk : Int) % 6 = 0 := by omega
            clear hk6
            obtain ⟨Ap, cp, hvp, _, _⟩ := own_slice HSM5.out.jat.disk.pend
            have k1 := HSM5.out.jat.disk.blk.cell 1
            simp at k1
            rw [hvp] at k1
            have hPb : P.length ≤ 1000 := by have := HSM5.out.hP; omega
            clear hvp
            by_cases hf : m ≤ half - en
            · have hfi : (m : Int) ≤ ((half - en : Nat) : Int) := by omega
              have hsub : IntKind.i64.wrap (((half - en : Nat) : Int) - (m : Int)) = ((half - (en + m) : Nat) : Int) := by
                rw [show ((half - en : Nat) : Int) - (m : Int) = ((half - (en + m) : Nat) : Int) by omega]
                exact IntWalk.i64_in _ (by omega)
              have hadd : IntKind.i64.wrap ((P.length : Int) + (m : Int)) = ((P.length + m : Nat) : Int) := by
                rw [show (P.length : Int) + (m : Int) = ((P.length + m : Nat) : Int) by omega]
                exact IntWalk.i64_in _ (by omega)
              have hc := HAP.out.1 hf
              have HC := hide hc
              have hen2 : en + m ≤ half := by omega
              clear hc hroom5 HAP HCK hf
              go_upto_region 29 with (go_at_call 20; refine HC.out.mono ?_; rintro e w6 ⟨rfl, vp6, vr6, hsm6⟩; obtain ⟨A6, c6, hv6, _, _⟩ := own_slice hsm6.jat.disk.pend; have k16 := hsm6.jat.disk.blk.cell 1; rw [hv6, HPL.out] at k16; simp only [List.getElem?_toArray, List.getElem?_cons_succ, List.getElem?_cons_zero] at k16; have hr6 := hsm6.room hN67; rw [← HH.out] at hr6; have HR6 := hide hr6; have HS6 := hide hsm6; clear hr6 hsm6 hv6)
              go_wp2_with (go_at_call 21; refine HR6.out.mono ?_; rintro e w7 ⟨rfl, hE7⟩; have HE7 := hide hE7; clear hE7)
              go_roundw
              case rel => exact ⟨k + 1, en + m, _, _, _, _, _, _, _, _, hlt, by omega, by go_num, rfl, hen2, HS6.out.no HE7.out⟩
              case measure => simp [intOf]; omega
            · have hfi : ¬ (m : Int) ≤ ((half - en : Nat) : Int) := by omega
              have hc := HAP.out.2 hf
              have HC := hide hc
              clear hc HAP HCK hf hroom5
              go_upto_region 29 with (go_at_call 20; refine HC.out.mono ?_; rintro e w6 ⟨rfl, hE6⟩; have k16 := hE6.cell k1 (fun h => h); have hr6 := (HSM5.out.no hE6).room hN67; rw [← HH.out] at hr6; have HR6 := hide hr6; have HE6 := hide hE6; clear hr6 hE6)
              go_wp2_with (go_at_call 21; refine HR6.out.mono ?_; rintro e w7 ⟨rfl, hE7⟩; have HE7 := hide hE7; clear hE7)
              go_roundw
              case rel => exact ⟨k + 1, en, _, _, _, _, _, _, _, _, hlt, by omega, by go_num, rfl, hen, ((HSM5.out.no HE6.out).no HE7.out).up⟩
              case measure => simp [intOf]; omega
    · have hkn : k = n := by omega
      subst hkn
      go_wp2_with (go_at_call 10; refine (awake_t _).mono ?_; rintro e w' ⟨rfl, hE⟩)
      go_ret
      exact ⟨rfl, HSM.out.ext.trans' hE⟩
end Go.Proofs.Ytmhhfhmpdpgmbaa
