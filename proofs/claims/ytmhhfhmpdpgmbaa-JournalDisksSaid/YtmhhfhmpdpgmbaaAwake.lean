/- awake: the examples of the chapter: the walk. -/
import Derived.Test.YtmhhfhmpdpgmbaaAwk1
namespace Go.Proofs.Ytmhhfhmpdpgmbaa
open Go.RowKit

set_option maxRecDepth 100000 in
set_option maxHeartbeats 8000000 in
theorem awake_t (w : World) : Calls Try.prog 10 #[] w fun e w' => e = .returned (.bool true) ∧ Ext NoS w w' := by
  have hnd := newDisk_t (8 : Int) w (by decide)
  have HND := hide hnd
  clear hnd
  obtain ⟨B, hB⟩ : ∃ B, B = w.heap.size := ⟨_, rfl⟩
  have HB := hide hB
  go_enter Try.func10, Try.ntmps10
  go_upto_region 2 with (go_at_call 31; refine HND.out.mono ?_; rintro e w1 h1; unfold NewDiskPost at h1; rw [if_neg (by decide)] at h1; obtain ⟨d, vs, rfl, hd, hda, hE1⟩ := h1; rw [← hB] at hda hd; have HDA := hide hda; have HE1 := hide hE1; clear hda hE1)
  clear hB
  obtain ⟨As, cs, rfl, hcs, _⟩ := own_slice HDA.out.safe
  have k0 := HDA.out.blk.cell 0
  simp at k0
  have hl8 : (List.replicate 8 zeroSec).length = 8 := List.length_replicate
  have HDA2 : Hid (DiskAt B w1 d (.slice As 8 cs) (.slice none 0 0) (List.replicate 8 zeroSec) []) := HDA
  have hop := open_t B w1 d (.slice As 8 cs) (.slice none 0 0) (List.replicate 8 zeroSec) [] HDA2.out (by rw [hl8]; decide) (by decide) (by have := HE1.out.size; have := HB.out; omega)
  have HOP := hide hop
  clear hop hl8 HDA
  go_upto_region 5 with (go_at_call 28; refine HOP.out.mono ?_; rintro e w2 h2; obtain ⟨j, vr, rfl, hj, hjat, hE2⟩ := open_new _ _ _ _ _ 8 (by decide) (by decide) _ _ h2; have HJ := hide hjat; have HE2 := hide hE2; clear h2 hjat hE2)
  have hX2 : Ext NoS w w2 := HE1.out.trans HE2.out fun i hi e => by
    have := HB.out
    rcases e with e | e | e
    · omega
    · have := own_base HDA2.out.safe e
      omega
    · simp [Value.ownBlock] at e
  have HX2 := hide hX2
  clear hX2 k0 HND HOP HDA2
  obtain ⟨gs, rfl⟩ : ∃ gs, As = some ⟨gs, 0, none⟩ := by
    rcases HJ.out.disk.safe.2 with ⟨hv, h0⟩ | ⟨g, cap, cur, hv, _⟩
    · rw [newS_length] at h0; omega
    · exact ⟨g, by injection hv⟩
  have k0 := HJ.out.disk.blk.cell 0
  simp at k0
  have r0 := own_at (k := 0) HJ.out.disk.safe HJ.out.disk.s32 rfl (s := secOf [(3, 1), (7, 1), (12, 3)]) (by have := aw_new; cases h : newS 8 with | nil => rw [h] at this; cases this | cons x r => rw [h] at this; simpa using this)
  rw [sv_A0] at r0
  rw [Nat.zero_mul] at r0
  have heq := eq_A0
  go_cut [62] (fun v62 w' => v62 = .bool false ∧ Ext NoS w2 w')
  case first =>
    go_wp2_with ((with_reducible show wpList _ _ _ (⟨some 40, _, _, _, _, _⟩ :: _) _ _); refine Hid.out ?_)
    refine hide ?_
    refine wpList_load_mid_g (op := ⟨some 40, _, _, _, _, _⟩) rfl 53 _ rfl gs 0 rfl _ _ r0 Try.underlying53 rfl sizeSec ?_
    go_wp2_with (first
      | (go_at_call 26; refine (records_t B w2 j d _ _ vr (newS 8) [] 0 1 1 1 [[]] HJ.out (by decide) (by decide)).mono ?_; rintro e w3 ⟨v3, rfl, hr3, hE3⟩; obtain ⟨A3, c3, hv3, hk3⟩ := hr3.rd; subst hv3; clear hr3 hk3)
      | (go_at_call 26; refine (records_t B w3 j d _ _ vr (newS 8) [] 0 1 1 1 [[]] (HJ.out.no hE3) (by decide) (by decide)).mono ?_; rintro e w4 ⟨v4, rfl, hr4, hE4⟩; obtain ⟨A4, c4, hv4, hk4⟩ := hr4.rd; subst hv4; obtain ⟨b4, o4, Ak, ck, hA4, hc4, _⟩ := hk4 0 (by decide); subst hA4; simp at hc4; clear hr4 hk4)
      | (go_at_call 21; refine (room_t j d 8 cs 1 _ w4 (((HJ.out.no hE3).no hE4).jb.cell 0) (((HJ.out.no hE3).no hE4).disk.blk.cell 0) (by decide) (((HJ.out.no hE3).no hE4).jb.cell 4) (by decide)).mono ?_; rintro e w' ⟨rfl, m, rfl⟩))
    all_goals
      go_meet
      exact ⟨rfl, (hE3.trans' hE4).drewN _⟩
  case rest =>
    obtain ⟨rfl, hE3⟩ := hcut
    have hj3 := HJ.out.no hE3
    have HX3 := hide (HX2.out.trans' hE3)
    have HJ3 := hide hj3
    have hbj : B ≤ j := by have := HB.out; have := HE1.out.size; omega
    clear heq r0 k0 hE3 hj3 HX2 HJ HE2 HE1
    have hcv := conv_const
    go_upto_region 8 with fail
    clear hcv
    obtain ⟨gL, hgL⟩ : ∃ g, g = wc.heap.size := ⟨_, rfl⟩
    rw [← hgL]
    refine wp_world (fun W => Ext NoS wc W ∧ Bytes (fun x => ByteBlk W x) W (.slice (some ⟨gL, 0, none⟩) 20 20) awL ∧ Bytes (fun x => ByteBlk W x) W (.slice (some ⟨gL, 0, none⟩) 19 20) (awL.take 19)) ⟨(Ext.refl _ _).alloc _, by rw [hgL]; exact bytes_lit (BB.new _ _ _ _) rfl (by decide) rfl, by rw [hgL]; exact bytes_lit (BB.new _ _ _ _) rfl (by decide) rfl⟩ ?_
    rintro W ⟨hEW, hb1, hb2⟩
    clear hgL
    have hjW := HJ3.out.no hEW
    have HJW := hide hjW
    have HXW := hide (HX3.out.trans' hEW)
    have HB1 := hide hb1
    have HB2 := hide hb2
    have hBW : B ≤ W.heap.size := by have := HB.out; have := HXW.out.size; omega
    clear hEW hjW hb1 hb2 HX3 HJ3
    go_cut [2, 5] (fun v2 v5 w' => v2 = .int .i64 0 ∧ v5 = .int .i64 4 ∧ (∃ vp' vr', JAt B w' j d (.slice (some ⟨gs, 0, none⟩) 8 cs) vp' vr' (newS 8) awP 0 1 1 3 [[], awL]) ∧ Ext NoS w w')
    case first =>
      have ha1 := append_t B W.drew j d _ _ vr _ (newS 8) [] 0 1 1 1 [[]] awL (HJW.out.no (Ext.refl NoS W).drew) ((HB1.out.ext (Ext.refl NoS W).drew (fun _ _ _ h => h)).mono (fun x _ h => h.ext (Ext.refl NoS W).drew (fun h => h))) (by rw [newS_length]; decide) (by decide) hBW (by decide) (by decide) (by decide) (by rw [newS_length]; decide) (by decide) (by decide)
      have ha1' := ha1.mono (R' := fun e w3 => e = .returned (.int .i64 0) ∧ ∃ vp1 vr1, JAt B w3 j d (.slice (some ⟨gs, 0, none⟩) 8 cs) vp1 vr1 (newS 8) awP 0 1 1 3 [[], awL] ∧ Ext NoS w w3 ∧ Bytes (fun x => ByteBlk w3 x) w3 (.slice (some ⟨gL, 0, none⟩) 19 20) (awL.take 19)) fun e w3 h3 => by
        obtain ⟨he, ⟨vp1, vr1, hj1⟩, hE1⟩ := append_aw1 h3
        have hE1 := (Ext.refl _ W).drew.trans' hE1
        exact ⟨he, vp1, vr1, hj1, HJW.out.fresh hbj hd HB.out HXW.out hE1, HB2.out.kept hE1 HJW.out⟩
      have HA1 := hide ha1'
      have ha2 : ∀ (w3 : World) (vp1 vr1 : Value), JAt B w3 j d (.slice (some ⟨gs, 0, none⟩) 8 cs) vp1 vr1 (newS 8) awP 0 1 1 3 [[], awL] → Ext NoS w w3 → Bytes (fun x => ByteBlk w3 x) w3 (.slice (some ⟨gL, 0, none⟩) 19 20) (awL.take 19) →
          Calls Try.prog 20 #[.pointer (some ⟨j, 0, none⟩), .slice (some ⟨gL, 0, none⟩) 19 20] w3 fun e w4 => e = .returned (.int .i64 4) ∧ Ext NoS w3 w4 := fun w3 vp1 vr1 h1 h2 h3 =>
        (append_t B w3 j d _ vp1 vr1 _ (newS 8) awP 0 1 1 3 [[], awL] (awL.take 19) h1 h3 (by rw [newS_length]; decide) (by decide) (by have := h2.size; have := HB.out; omega) (by decide) (by decide) (by decide) (by rw [newS_length]; decide) (by decide) (by decide)).mono fun e w4 h4 => append_aw2 h4
      have HA2 := hide ha2
      clear ha1 ha1' ha2
      go_region_with (first
        | (go_at_call 20; ((with_reducible refine HA1.out.mono ?_)); rintro e w3 ⟨rfl, vp1, vr1, hj1, hx1, hb3⟩; have HJ1 := hide hj1; have HX1 := hide hx1; have HB3 := hide hb3; clear hj1 hx1 hb3)
        | (go_at_call 20; ((with_reducible refine (HA2.out _ _ _ HJ1.out HX1.out HB3.out).mono ?_)); rintro e w4 ⟨rfl, hE4⟩))
      all_goals
        go_wp2_with fail
        go_meet
        exact ⟨rfl, rfl, ⟨_, _, HJ1.out.no hE4⟩, HX1.out.trans' hE4⟩
    case rest =>
      obtain ⟨rfl, rfl, ⟨vp1, vr1, hj1⟩, hX1⟩ := hcut
      have HJ1 := hide hj1
      have HX1 := hide hX1
      clear hj1 hX1 HJW HXW HB1 HB2
      go_upto_region 9 with fail
      -- region 9: what was appended
      obtain ⟨Ap, cp, rfl, hcp, _⟩ := own_slice HJ1.out.disk.pend
      obtain ⟨gp, rfl⟩ : ∃ gp, Ap = some ⟨gp, 0, none⟩ := by
        rcases HJ1.out.disk.pend.2 with ⟨hv, h0⟩ | ⟨g, cap, cur, hv, _⟩
        · rw [aw_P_len] at h0; omega
        · exact ⟨g, by injection hv⟩
      have hpl := aw_P_len
      have hel := own_elem HJ1.out.disk.pend (fun x hx => by rw [wv_length, HJ1.out.disk.p32 x hx]) rfl 1 (by rw [aw_P_len]; decide)
      have hP1 : awP[1]'(by rw [aw_P_len]; decide) = (2, secOf [(3, 1), (7, 1), (11, 2), (12, 2), (13, 2), (14, 115), (15, 116)]) := by
        have := aw_P1
        rw [List.getElem?_eq_getElem (by rw [aw_P_len]; decide)] at this
        exact Option.some.inj this
      rw [hP1, Nat.one_mul] at hel
      have k1 := HJ1.out.disk.blk.cell 1
      simp at k1
      rw [aw_P_len] at k1
      have p0 : wc.cell? ⟨gp, 33, none⟩ = some (.int .i64 2) := hel 0 _ rfl
      have r1 : wc.rangeAt gp 34 (sv (secOf [(3, 1), (7, 1), (11, 2), (12, 2), (13, 2), (14, 115), (15, 116)])) := range_drop hel 1
      rw [sv_P1] at r1
      have r1d : ∀ m, (wc.drewN m).rangeAt gp 34 _ := fun m => r1
      have heq := eq_P1
      clear hel hP1 hpl
      have hr4 := room_t j d 8 cs 3 _ wc (HJ1.out.jb.cell 0) (HJ1.out.disk.blk.cell 0) (by decide) (HJ1.out.jb.cell 4) (by decide)
      have HR4 := hide hr4
      clear hr4
      go_cut [111] (fun v111 w' => v111 = .bool false ∧ Ext NoS wc w')
      case first =>
        have k1d : ∀ m, (wc.drewN m).cell? ⟨d, 1, none⟩ = _ := fun m => k1
        have p0d : ∀ m, (wc.drewN m).cell? ⟨gp, 33, none⟩ = _ := fun m => p0
        go_wp2_with (first
          | (go_at_call 21; refine HR4.out.mono ?_; rintro e w' ⟨rfl, m, rfl⟩)
          | ((with_reducible show wpList _ _ _ (⟨some 108, _, _, _, _, _⟩ :: _) _ _); refine Hid.out ?_))
        refine hide ?_
        refine wpList_load_mid_g (op := ⟨some 108, _, _, _, _, _⟩) rfl 53 _ rfl gp 34 rfl _ _ (r1d _) Try.underlying53 rfl sizeSec ?_
        go_wp2_with fail
        all_goals
          go_meet
          exact ⟨rfl, (Ext.refl _ _).drewN _⟩
      case rest =>
        obtain ⟨rfl, hE3⟩ := hcut
        have HD3 := hide (HJ1.out.disk.no hE3)
        have HX3 := hide (HX1.out.trans' hE3)
        clear heq r1 r1d p0 k1 HR4 hE3 HJ1 HX1
        -- regions 11, 12: the disk crashes, the journal is opened again
        have hcr : Calls Try.prog 12 #[.pointer (some ⟨d, 0, none⟩), .slice (some ⟨wc.heap.size, 0, none⟩) 2 2] (wc.alloc (.cells #[.bool false, .bool true] 4)) fun e w' => e = .returned (.tuple #[]) ∧ DiskAt B w' d (.slice (some ⟨gs, 0, none⟩) 8 cs) (.slice none 0 0) awS2 [] ∧ Ext NoS w w' := by
          have hn : Ext NoS wc (wc.alloc (.cells #[.bool false, .bool true] 4)) := (Ext.refl _ _).alloc _
          have hd2 := HD3.out.no hn
          refine (crash_t B _ d _ _ _ (newS 8) awP [false, true] hd2 ⟨some ⟨wc.heap.size, 0, none⟩, 2, rfl, by decide, fun _ => ⟨wc.heap.size, 0, rfl, fun h => ?_, (Blk.new wc 4 #[.bool false, .bool true]).all⟩⟩ (by rw [newS_length]; decide) (by rw [aw_P_len]; decide) (by decide)).mono ?_
          · rcases h with h | h
            · have := HD3.out.blk.lt; omega
            · obtain ⟨cur, hc, _⟩ := own_blk HD3.out.safe h
              have := hc.lt; omega
          · rintro e w' ⟨he, h1, h2⟩
            refine ⟨he, h1, (HX3.out.trans' hn).trans h2 fun i hi e => ?_⟩
            have := HB.out
            rcases e with e | e
            · omega
            · have := own_base HD3.out.safe e
              omega
        have HCR := hide hcr
        clear hcr
        go_upto_region 12 with (go_at_call 12; refine HCR.out.mono ?_; rintro e w5 ⟨rfl, hd5, hX5⟩; have HD5 := hide hd5; have HX5 := hide hX5; clear hd5 hX5)
        have hop := open_t B w5 d _ _ awS2 [] HD5.out (by rw [aw_S2_len]; decide) (by decide) (by have := HX5.out.size; have := HB.out; omega)
        have HOP := hide hop
        clear hop HCR HD3 HX3
        go_upto_region 13 with (go_at_call 28; refine HOP.out.mono ?_; rintro e w6 h6; obtain ⟨j2, vr2, rfl, hj2, hjat, hE6⟩ := open_aw _ _ _ _ _ _ _ h6; have HJ6 := hide hjat; have HX6 := hide (HX5.out.trans' hE6); clear h6 hjat hE6)
        have hbj2 : B ≤ j2 := by have := HX5.out.size; have := HB.out; omega
        clear HOP HD5 HX5 hj2
        go_cut [132] (fun v132 w' => v132 = .bool false ∧ Ext NoS w6 w')
        case first =>
          go_wp2_with (first
            | (go_at_call 26; refine (records_t B w6 j2 d _ _ vr2 awS2 [] 0 1 2 1 [[]] HJ6.out (by decide) (by decide)).mono ?_; rintro e w7 ⟨v7, rfl, hr7, hE7⟩; obtain ⟨A7, c7, hv7, hk7⟩ := hr7.rd; subst hv7; clear hr7 hk7)
            | (go_at_call 21; refine (room_t j2 d 8 cs 1 _ w7 ((HJ6.out.no hE7).jb.cell 0) ((HJ6.out.no hE7).disk.blk.cell 0) (by decide) ((HJ6.out.no hE7).jb.cell 4) (by decide)).mono ?_; rintro e w' ⟨rfl, m, rfl⟩))
          all_goals
            go_meet
            exact ⟨rfl, hE7.drewN _⟩
        case rest =>
          obtain ⟨rfl, hE7⟩ := hcut
          have HJ7 := hide (HJ6.out.no hE7)
          have HX7 := hide (HX6.out.trans' hE7)
          clear hE7 HJ6 HX6
          -- region 15: one more record
          have hcv := conv_const
          have hB7 : B ≤ wc.heap.size := by have := HX7.out.size; have := HB.out; omega
          have hap : Calls Try.prog 20 #[.pointer (some ⟨j2, 0, none⟩), .slice (some ⟨wc.heap.size, 0, none⟩) 1 1] (wc.alloc (.cells #[.int .u8 120] 5 (1, 2))) fun e w' => e = .returned (.int .i64 0) ∧ (∃ vp' vr', JAt B w' j2 d (.slice (some ⟨gs, 0, none⟩) 8 cs) vp' vr' awS2 awP3 0 1 2 2 [[], [120]]) ∧ Ext NoS w w' := by
            have hn : Ext NoS wc (wc.alloc (.cells #[.int .u8 120] 5 (1, 2))) := (Ext.refl _ _).alloc _
            have hj := HJ7.out.no hn
            refine (append_t B _ j2 d _ _ vr2 _ awS2 [] 0 1 2 1 [[]] [120] hj (bytes_lit (BB.new wc 5 #[.int .u8 120] (1, 2)) rfl (by decide) rfl) (by rw [aw_S2_len]; decide) (by decide) (by have := hn.size; omega) (by decide) (by decide) (by decide) (by rw [aw_S2_len]; decide) (by decide) (by decide)).mono ?_
            intro e w' h
            obtain ⟨h1, h2, h3⟩ := append_aw3 h
            exact ⟨h1, h2, hj.fresh hbj2 hd HB.out (HX7.out.trans' hn) h3⟩
          have HAP := hide hap
          clear hap
          go_upto_region 16 with (go_at_call 20; refine HAP.out.mono ?_; rintro e w8 ⟨rfl, ⟨vp8, vr8, hj8⟩, hX8⟩; have HJ8 := hide hj8; have HX8 := hide hX8; clear hj8 hX8)
          clear HAP HJ7 HX7
          -- region 16: room, a checkpoint, two sectors
          have hB8 : B ≤ wc.heap.size + 0 := by omega
          have hroom := room_t j2 d 8 cs 2 _ w8 (HJ8.out.jb.cell 0) (HJ8.out.disk.blk.cell 0) (by decide) (HJ8.out.jb.cell 4) (by decide)
          have HROOM := hide hroom
          have hck : ∀ m, Calls Try.prog 19 #[.pointer (some ⟨j2, 0, none⟩), .slice (some ⟨w8.heap.size, 0, none⟩) 2 2] ((w8.drewN m).alloc (.cells #[.int .u8 97, .int .u8 98] 5 (2, 3))) fun e w' => e = .returned (.int .i64 0) ∧ (∃ vr', JAt B w' j2 d (.slice (some ⟨gs, 0, none⟩) 8 cs) (.slice none 0 0) vr' awS4 [] 1 2 2 1 [[97, 98]]) ∧ Ext NoS w w' := fun m => by
            have hn : Ext NoS w8 ((w8.drewN m).alloc (.cells #[.int .u8 97, .int .u8 98] 5 (2, 3))) := ((Ext.refl _ _).drewN m).alloc _
            have hj := HJ8.out.no hn
            have hB9 : B ≤ w8.heap.size := by have := HX8.out.size; have := HB.out; omega
            refine (checkpoint_t B _ j2 d _ _ vr8 _ awS2 awP3 0 1 2 2 _ [97, 98] hj (bytes_lit (BB.new (w8.drewN m) 5 #[.int .u8 97, .int .u8 98] (2, 3)) rfl (by decide) rfl) (by rw [aw_S2_len]; decide) (by decide) (by have := hn.size; omega) (by decide) (by decide) (by decide) (by decide)).mono ?_
            intro e w' h
            obtain ⟨h1, h2, h3⟩ := check_aw h
            exact ⟨h1, h2, hj.fresh hbj2 hd HB.out (HX8.out.trans' hn) h3⟩
          have HCK := hide hck
          have h41 := aw_S4_1
          have h44 := aw_S4_4
          have H41 := hide h41
          have H44 := hide h44
          clear hroom hck h41 h44 hB8
          have hcv2 := conv_const2
          have e1 := eq_S41
          have e2 := eq_S44
          go_cut [170] (fun v170 w' => v170 = .bool false ∧ Ext NoS w w')
          case first =>
            go_wp2_with (first
              | (go_at_call 21; refine HROOM.out.mono ?_; rintro e w' ⟨rfl, m, rfl⟩)
              | (go_at_call 19; refine (HCK.out _).mono ?_; rintro e w9 ⟨rfl, ⟨vr9, hj9⟩, hX9⟩; have HJ9 := hide hj9; have HX9 := hide hX9; have k9 := hj9.disk.blk.cell 0; simp at k9; clear hj9 hX9)
              | ((with_reducible show wpList _ _ _ (⟨some 157, _, _, _, _, _⟩ :: _) _ _); refine Hid.out ?_))
            refine hide ?_
            have r1 := own_at HJ9.out.disk.safe HJ9.out.disk.s32 rfl H41.out
            rw [sv_S41, Nat.one_mul] at r1
            have r4 := own_at HJ9.out.disk.safe HJ9.out.disk.s32 rfl H44.out
            rw [sv_S44] at r4
            refine wpList_load_mid_g (op := ⟨some 157, _, _, _, _, _⟩) rfl 53 _ rfl gs 32 rfl _ _ r1 Try.underlying53 rfl sizeSec ?_
            clear r1
            go_wp2_with ((with_reducible show wpList _ _ _ (⟨some 167, _, _, _, _, _⟩ :: _) _ _); refine Hid.out ?_)
            refine hide ?_
            refine wpList_load_mid_g (op := ⟨some 167, _, _, _, _, _⟩) rfl 53 _ rfl gs 128 rfl _ _ r4 Try.underlying53 rfl sizeSec ?_
            clear r4
            go_wp2_with fail
            all_goals
              go_meet
              exact ⟨rfl, HX9.out⟩
          case rest =>
            obtain ⟨rfl, hX⟩ := hcut
            have HXE := hide hX
            clear hX HROOM HCK H41 H44 e1 e2 HJ8 HX8 hcv hcv2
            have hpk := fun W (h : Texts (fun _ => True) W (.slice (some ⟨wc.heap.size, 0, none⟩) 2 2) [⟨#[97]⟩, ⟨#[]⟩]) => pack_t _ [⟨#[97]⟩, ⟨#[]⟩] _ W h
            have hpk2 : Calls Try.prog 22 #[.slice (some ⟨wc.heap.size, 0, none⟩) 2 2] (wc.alloc (.cells #[.string ⟨#[97]⟩, .string ⟨#[]⟩] 9)) fun e w' => ∃ g c, e = .returned (.tuple #[.slice (some ⟨g, 0, none⟩) 5 c, .int .i64 0]) ∧ Ext NoS wc w' ∧ w'.rangeAt g 0 ([0, 1, 97, 0, 0].map bv) := by
              have hn : Ext NoS wc (wc.alloc (.cells #[.string ⟨#[97]⟩, .string ⟨#[]⟩] 9)) := (Ext.refl _ _).alloc _
              refine (hpk _ ⟨some ⟨wc.heap.size, 0, none⟩, 2, rfl, by decide, fun _ => ⟨wc.heap.size, 0, rfl, trivial, (Blk.new wc 9 #[.string ⟨#[97]⟩, .string ⟨#[]⟩]).all⟩⟩).mono ?_
              rintro e w' ⟨v, he, hx, hv⟩
              rw [aw_packErr] at he hv
              rw [if_pos rfl, aw_pack] at hv
              rcases hv.2 with ⟨_, h0⟩ | ⟨g, cap, cur, hv2, _⟩
              · exact absurd h0 (by decide)
              · refine ⟨g, cap, by rw [he, hv2]; rfl, hn.trans' hx, own_range hv (by rw [hv2]; rfl)⟩
            have HPK := hide hpk2
            clear hpk hpk2
            go_upto_region 19 with (go_at_call 22; refine HPK.out.mono ?_; rintro e w10 ⟨g, c, rfl, hx10, hr10⟩; have HX10 := hide (HXE.out.trans' hx10); have HR10 := hide hr10; clear hx10 hr10)
            have hup : Calls Try.prog 23 #[.slice (some ⟨w10.heap.size, 0, none⟩) 2 2] (w10.alloc (.cells #[.int .u8 0, .int .u8 1] 5)) fun e w' => e = .returned (.tuple #[.slice none 0 0, .int .i64 421]) ∧ Ext NoS w10 w' := by
              have hn : Ext NoS w10 (w10.alloc (.cells #[.int .u8 0, .int .u8 1] 5)) := (Ext.refl _ _).alloc _
              refine (unpack_t (fun _ => True) [0, 1] _ _ ((bytes_lit (l := [0, 1]) (BB.new w10 5 #[.int .u8 0, .int .u8 1] (0, 0)) rfl (by decide) rfl).mono (fun _ _ _ => trivial))).mono ?_
              rintro e w' ⟨hx, hm⟩
              rw [aw_unpack] at hm
              exact ⟨hm, hn.trans' hx⟩
            have HUP := hide hup
            clear hup HPK HXE
            go_upto_region 20 with (go_at_call 23; refine HUP.out.mono ?_; rintro e w11 ⟨rfl, hx11⟩; have HX11 := hide (HX10.out.trans' hx11); have hr11 := range_ext HR10.out hx11 (fun h => h); clear hx11)
            have hconv : (convert 46 9 (.slice (some ⟨g, 0, none⟩) 5 c)).run Try.prog w11 = .ok (.string ⟨#[0, 1, 97, 0, 0]⟩) w11 :=
              run_convert_bytes_back (P := Try.prog) w11 46 9 5 ⟨g, 0, none⟩ c [0, 1, 97, 0, 0] Try.underlying46 Try.underlying5 Try.underlying9 (fun j hj => by
                rw [Addr.add_mid]
                exact hr11 j _ (by rw [List.getElem?_map, List.getElem?_eq_getElem hj]; rfl))
            clear hr11 HR10 HUP HX10
            go_wp2
            all_goals
              go_ret
              exact ⟨rfl, HX11.out⟩
end Go.Proofs.Ytmhhfhmpdpgmbaa
