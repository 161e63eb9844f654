/- Open: the walk. -/
import Derived.Test.YtmhhfhmpdpgmbaaOpen0
namespace Go.Proofs.Ytmhhfhmpdpgmbaa
open Go.RowKit

set_option maxRecDepth 100000 in
set_option maxHeartbeats 100000000 in
theorem open_t (B : Nat) (w : World) (d : Nat) (vs vp : Value) (S : List Sec) (P : List (Int × Sec)) (h : DiskAt B w d vs vp S P) (hS : S.length ≤ 100000) (hP : P.length ≤ 500000) (hB : B ≤ w.heap.size) :
    Calls Try.prog 28 #[.pointer (some ⟨d, 0, none⟩)] w (OpenPost B w d vs vp S P) := by
  obtain ⟨As, cs, rfl, hcs, _⟩ := own_slice h.safe
  obtain ⟨Ap, cp, rfl, hcp, _⟩ := own_slice h.pend
  have hright := right_t w B d _ _ S P h (by omega) (by omega)
  have HRIGHT := hide hright; clear hright
  have HD := hide h; clear h
  go_enter Try.func28, Try.ntmps28
  cases hrb : rightB S P with
  | false =>
    have HRB := hide hrb
    rw [hrb] at HRIGHT
    clear hrb
    go_wp2_with (go_at_call 38; refine HRIGHT.out.mono ?_; rintro e w1 ⟨rfl, hE⟩; have HE := hide hE; clear hE)
    go_ret2
    unfold OpenPost
    rw [if_pos HRB.out]
    exact ⟨rfl, HE.out⟩
  | true =>
    have hin := outside_in hrb
    obtain ⟨h4, h32, hPin⟩ := hin
    have HRB := hide hrb
    rw [hrb] at HRIGHT
    have HPIN := hide hPin
    clear hrb hPin
    go_upto_region 3 with (go_at_call 38; refine HRIGHT.out.mono ?_; rintro e w1 ⟨rfl, hE⟩; have HE := hide hE; clear hE)
    have hd1 := HD.out.no HE.out
    have k0 := hd1.blk.cell 0
    have k1 := hd1.blk.cell 1
    simp at k0 k1
    have hcl := cloneS_t B w1 _ S hd1.safe (by omega)
    have HCL := hide hcl; clear hcl
    have HD1 := hide hd1; clear hd1 HD HRIGHT
    go_wp2_with (go_at_call 39; refine HCL.out.mono ?_; rintro e w2 ⟨v4, rfl, ho4, hE2⟩; have j0 := hE2.cell k0 (fun h => h); have j1 := hE2.cell k1 (fun h => h); have HO4 := hide ho4; have HE2 := hide hE2; clear ho4 hE2)
    obtain ⟨gv, cv, hv4, hf1, hf2⟩ := HO4.out.form (by omega)
    subst hv4
    have hgl := own_base HO4.out rfl
    clear hf1 hf2 HCL
    have hE12 := HE2.out
    clear j0 j1
    go_loopw [31] (fun v31 wr => ∃ k : Nat, k ≤ P.length ∧ v31 = .int .i64 k ∧ wr.ownsRow w1.heap.size 53 32 (.slice (some ⟨gv, 0, none⟩) S.length cv) S.length ((crash S (P.take k) []).flatMap sv) ∧ Ext NoS w1 wr) (fun i _ => P.length - (intOf i).toNat)
    case atStart => exact ⟨0, Nat.zero_le _, rfl, HO4.out, hE12⟩
    case round =>
      obtain ⟨k, hk, rfl, hvw, hE⟩ := hrel
      clear hE12 HO4 HE2
      by_cases hlt : k < P.length
      · have hpe := own_ext HD1.out.pend hE (fun _ _ h => h)
        obtain ⟨gp, cp', hvp, _, _⟩ := hpe.form (by omega)
        have hAp : Ap = some ⟨gp, 0, none⟩ := by injection hvp
        clear hvp
        subst hAp
        have hr := own_elem hpe (fun x hx => by rw [wv_length, HD1.out.p32 x hx]) rfl k hlt
        obtain ⟨x, hx⟩ : ∃ x, x = P[k] := ⟨_, rfl⟩
        rw [← hx] at hr
        have hx32 : x.2.length = 32 := by rw [hx]; exact HD1.out.p32 _ (List.getElem_mem _)
        obtain ⟨hx0, hx1⟩ := HPIN.out x (by rw [hx]; exact List.getElem_mem _)
        obtain ⟨m, hm⟩ : ∃ m : Nat, x.1 = m := ⟨x.1.toNat, by omega⟩
        have hml : m < S.length := by omega
        have hsz : (Try.prog.info? 55).map (·.size) = some (wv x).length := by rw [sizeWr, wv_length, hx32]
        have hsz2 : (Try.prog.info? 53).map (·.size) = some (sv x.2).length := by rw [sizeSec, sv_length, hx32]
        have hcr : crash S (P.take (k + 1)) [] = (crash S (P.take k) []).set m x.2 := by
          rw [crash_take_succ S P [] k hlt, ← hx, put1, if_pos ⟨rfl, by omega, by rw [crash_length]; omega⟩, hm]
          rfl
        have HCR := hide hcr
        have HX32 := hide hx32
        have HVW := hide hvw
        have HE3 := hide hE
        have HM := hide hm
        clear hcr hx32 hvw hE hm hx hx0 hx1 hpe
        go_wp2_with (first
          | ((with_reducible refine wpList_load_mid (op := ⟨some 34, _, _, _, _, _⟩) rfl 55 _ rfl gp (k * 33) ?_ (wv x) _ hr Try.underlying55 rfl hsz ?_); exact rfl)
          | ((with_reducible refine wpList_store_new (op := ⟨none, .store 55 _ _, _, _, _, _⟩) wr 55 _ (wv x).toArray rfl _ _ rfl ?_ ?_ ?_ ?_ ?_ ?_); (exact rfl); (exact rfl); (simpa using hsz); (have := HX32.out; simp [wv_length, this]); (simpa using wv_one x); refine Hid.out ?_))
        refine hide ?_
        obtain ⟨n, hn⟩ : ∃ n, n = wr.heap.size := ⟨_, rfl⟩
        rw [← hn]
        refine wpList_world (fun W3 => Ext NoS wr W3 ∧ Blk W3 n 55 (wv x).toArray) ⟨(Ext.refl _ _).alloc _, by rw [hn]; exact Blk.new _ _ _⟩ ?_
        rintro W3 ⟨hE4, hb3⟩
        have e0 : W3.cell? ⟨n, 0, none⟩ = some (.int .i64 m) := by rw [hb3.cell, ← HM.out]; rfl
        have r1 : W3.rangeAt n 1 (sv x.2) := by
          have := hb3.range 1 32
          simp only [wv, List.extract_toArray] at this
          rw [show (List.extract (Value.int .i64 x.1 :: sv x.2) 1 (1 + 32)) = sv x.2 by simp [List.extract, sv, List.take_of_length_le, HX32.out]] at this
          exact this
        have hvw3 := own_ext HVW.out hE4 (fun _ _ h => h)
        have hcl3 := crash_length S (P.take k) []
        have hvw4 : W3.ownsRow w1.heap.size 53 32 (.slice (some ⟨gv, 0, none⟩) S.length cv) (crash S (P.take k) []).length ((crash S (P.take k) []).flatMap sv) := by rw [hcl3]; exact hvw3
        have hset := own_set hvw4 (fun y hy => by rw [sv_length]; exact crash_all32 _ _ _ HD1.out.s32 (fun z hz => HD1.out.p32 z (List.mem_of_mem_take hz)) y hy) rfl m (by rw [hcl3]; exact hml) x.2 (by rw [sv_length]; exact HX32.out)
        obtain ⟨cur, hcur, _, _, hszc⟩ := own_blk hvw3 rfl
        have th : W3.there gv (m * 32) 32 := hcur.there _ _ (by omega)
        have hng : ¬ n = gv := hb3.ne_ hcur (by decide)
        have HSET := hide hset
        have HE4 := hide hE4
        have HCL3 := hide hcl3
        clear hset hvw4 hvw3 hcl3 hE4 hcur hszc hn
        go_wp2_with (first
          | ((with_reducible refine wpList_load_mid (op := ⟨some 39, _, _, _, _, _⟩) rfl 53 _ rfl n 1 ?_ (sv x.2) _ r1 Try.underlying53 rfl hsz2 ?_); exact rfl)
          | ((with_reducible show wpList _ _ _ (⟨none, .store 53 _ _, _, _, _, _⟩ :: _) _ _); refine Hid.out ?_))
        refine hide ?_
        refine wpList_store_mid rfl 53 _ _ rfl gv (m * 32) (sv x.2).toArray rfl rfl (by simpa [sv_length, HX32.out] using th) (by simpa using hsz2) (all_oneCell_toArray (sv_one _)) ?_
        have hfin : (W3.setCells gv (m * 32) (sv x.2)).ownsRow w1.heap.size 53 32 (.slice (some ⟨gv, 0, none⟩) S.length cv) S.length ((crash S (P.take (k + 1)) []).flatMap sv) := by
          have := HSET.out
          rw [HCL3.out] at this
          rw [HCR.out]
          exact this
        have HFIN := hide hfin
        clear hfin
        go_wp2
        go_roundw
        case rel => exact ⟨k + 1, hlt, by go_num, by simpa using HFIN.out, (HE3.out.trans' HE4.out).trans (by simpa using ext_setCells W3 gv (m * 32) (sv x.2)) (fun i hi e => by omega)⟩
        case measure => simp [intOf]; omega
      · have hke : P.take k = P := List.take_of_length_le (by omega)
        rw [hke] at hvw
        have HVW := hide hvw
        have HEV := hide hE
        clear hvw hE hke
        have hVl := crash_length S P []
        have hV32 := crash_all32 S P [] HD1.out.s32 HD1.out.p32
        obtain ⟨V, hV⟩ : ∃ V, V = crash S P [] := ⟨_, rfl⟩
        rw [← hV] at hVl hV32
        rw [← hV] at HVW
        have HV := hide hV
        obtain ⟨half, hhalf⟩ : ∃ x, x = S.length / 2 := ⟨_, rfl⟩
        have hh1 : 2 ≤ half := by omega
        have hh2 : 2 * half ≤ S.length := by omega
        have hh3 : half ≤ 16384 := by omega
        have HHALF := hide hhalf
        have HVL := hide hVl
        have HV32 := hide hV32
        clear hV hhalf hVl hV32 hk
        have k0r := HEV.out.cell k0 (fun h => h)
        have hmul : IntKind.i64.wrap ((2 : Int) * (half : Int)) = ((2 * half : Nat) : Int) := by
          have : (2 : Int) * (half : Int) = ((2 * half : Nat) : Int) := by omega
          rw [this]
          exact IntWalk.i64_in _ (by omega)
        obtain ⟨h2h, hh2h⟩ : ∃ x, x = 2 * half := ⟨_, rfl⟩
        rw [← hh2h] at hmul hh2
        have HH2H := hide hh2h
        clear hh2h
        have hcv : S.length ≤ cv := by
          obtain ⟨A', c', hv', hc', _⟩ := own_slice HVW.out
          injection hv' with _ _ e3
          omega
        have hb1 : (h2h : Int) ≤ (cv : Int) := by omega
        obtain ⟨J, hJ⟩ : ∃ J, J = wr.heap.size := ⟨_, rfl⟩
        have k0a := ((Ext.refl NoS wr).alloc (.cells #[.pointer (some ⟨d, 0, none⟩), .int .i64 0, .int .i64 0, .int .i64 0, .int .i64 0, .slice none 0 0] 82)).cell k0r (fun h => h)
        have j0 : (wr.alloc (.cells #[.pointer (some ⟨d, 0, none⟩), .int .i64 0, .int .i64 0, .int .i64 0, .int .i64 0, .slice none 0 0] 82)).cell? ⟨wr.heap.size, 0, none⟩ = some (.pointer (some ⟨d, 0, none⟩)) := by
          rw [(Blk.new _ _ _).cell]; rfl
        have hsize := size_t wr.heap.size d S.length cs As _ j0 k0a (by omega)
        rw [← HHALF.out] at hsize
        have HSIZE := hide hsize
        clear hsize k0a j0
        have HJ := hide hJ
        clear hJ
        go_wp2_with (go_at_call 34; refine HSIZE.out.mono ?_; rintro e w' ⟨rfl, rfl⟩)
        rw [← HJ.out]
        clear HSIZE HPIN
        refine wp_world (fun W5 => Ext NoS wr W5 ∧ Blk W5 J 82 #[.pointer (some ⟨d, 0, none⟩), .int .i64 0, .int .i64 0, .int .i64 0, .int .i64 0, .slice none 0 0]) ⟨(Ext.refl _ _).alloc _, by rw [HJ.out]; exact Blk.new _ _ _⟩ ?_
        rintro W5 ⟨hE5, hj5⟩
        have hv5 := own_ext HVW.out hE5 (fun _ _ h => h)
        have HE5 := hide hE5
        have HV5 := hide hv5
        have hgJ : ¬ gv = J := fun e => by
          obtain ⟨cur, hcur, _⟩ := own_blk HVW.out rfl
          have h1 : gv < wr.heap.size := hcur.lt
          have := HJ.out
          omega
        clear hE5 hv5 k0r hmul hb1 hcv HVW
        go_loopw [9, 52] (fun v9 v52 wl => ∃ (k : Nat) (a : Nat × Nat), k ≤ h2h ∧ v52 = .int .i64 k ∧ v9 = .int .i64 a.2 ∧ a = lifeGo half (V.take k) 0 (0, 0) ∧ a.1 < 4294967296 ∧ a.2 < 4294967296 ∧ Ext (fun x => x = J) W5 wl ∧
          Blk wl J 82 #[.pointer (some ⟨d, 0, none⟩), .int .i64 0, .int .i64 0, .int .i64 a.1, .int .i64 0, .slice none 0 0]) (fun _ i _ => h2h - (intOf i).toNat)
        case atStart => exact ⟨0, (0, 0), Nat.zero_le _, rfl, rfl, rfl, by decide, by decide, Ext.refl _ _, hj5⟩
        case round =>
          clear hj5
          obtain ⟨k, a, hk, rfl, rfl, ha, ha1, ha2, hEl, hjl⟩ := hrel
          by_cases hlt : k < h2h
          · have hkV : k < V.length := by rw [HVL.out]; omega
            have hr := own_elem HV5.out (fun x hx => by rw [sv_length, HV32.out x hx]) rfl k hkV
            have hr2 := range_ext hr hEl hgJ
            obtain ⟨s, hs⟩ : ∃ s, s = V[k] := ⟨_, rfl⟩
            rw [← hs] at hr2
            have hs32 : s.length = 32 := by rw [hs]; exact HV32.out _ (List.getElem_mem _)
            have hsz : (Try.prog.info? 53).map (·.size) = some (sv s).length := by rw [sizeSec, sv_length, hs32]
            have HS := hide hs
            have HS32 := hide hs32
            have HA := hide ha
            have HEL := hide hEl
            have HJL := hide hjl
            have HR2 := hide hr2
            clear hs hs32 ha hEl hjl hr2 hr
            go_upto_region 14 with (first
              | ((with_reducible refine wpList_load_mid (op := ⟨some 56, _, _, _, _, _⟩) rfl 53 _ rfl gv (k * 32) ?_ (sv s) _ HR2.out Try.underlying53 rfl hsz ?_); exact rfl)
              | ((with_reducible refine wpList_store_new (op := ⟨none, .store 53 _ _, _, _, _, _⟩) wr 53 _ (sv s).toArray rfl _ _ rfl ?_ ?_ ?_ ?_ ?_ ?_); (exact rfl); (exact rfl); (simpa using hsz); (have := HS32.out; simp [sv_length, this]); (simpa using sv_one s)))
            simp only [Act.put]
            obtain ⟨nW, hnW⟩ : ∃ n, n = wr.heap.size := ⟨_, rfl⟩
            rw [← hnW]
            refine wp_world (fun W => Ext NoS wr W ∧ Blk W nW 53 (sv s).toArray) ⟨(Ext.refl _ _).alloc _, by rw [hnW]; exact Blk.new _ _ _⟩ ?_
            rintro W ⟨hEW, hbW⟩
            have hrW := hbW.all
            obtain ⟨kr, hkr⟩ : ∃ x, x = k % half := ⟨_, rfl⟩
            have hrem : Int.tmod (k : Int) (half : Int) = (kr : Int) := by rw [hkr]; rfl
            have hh0 : ¬ ((half : Int) = 0) := by omega
            have hh0n : ¬ (half = 0) := by omega
            have hkrb : kr < 4611686018427387904 := by rw [hkr]; have := Nat.mod_lt k (show 0 < half by omega); omega
            have HKR := hide hkr
            have HEW := hide hEW
            have HBW := hide hbW
            clear hkr hEW hbW hnW
            have keepS : ∀ w', Ext NoS W w' → Ext NoS W w' ∧ w'.rangeAt nW 0 (sv s) := fun w' h => ⟨h, range_ext hrW h (fun h => h)⟩
            have hu53 := Try.underlying53
            go_cut [12, 14] (fun v12 v14 w' => v14 = .bool (readOk s kr) ∧ Ext NoS W w' ∧ ∃ b, v12 = .pointer (some ⟨b, 0, none⟩) ∧ Blk w' b 85 #[.int .i64 (mEp s : Nat), .int .i64 (mLi s : Nat), .int .i64 (mNu s kr : Nat), .int .i64 (mFl s : Nat)])
            case first =>
              have hrd : ∀ W2, Calls Try.prog 40 #[.agg (sv s).toArray, .int .i64 kr] W2 (ReadPost2 s kr W2) := fun W2 => read_t2 s kr W2 HS32.out hkrb
              have HRD := hide hrd; clear hrd
              go_region_held3 (fun w' => Ext NoS W w' ∧ w'.rangeAt nW 0 (sv s))
                (first
                  | exact keepS _ ((((hx3.setCell (.inr (Nat.le_refl _)) _).setCell (.inr (Nat.le_refl _)) _).setCell (.inr (Nat.le_refl _)) _).setCell (.inr (Nat.le_refl _)) _)
                  | exact keepS _ hx3
                  | exact keepS _ (Ext.refl _ _).drew
                  | exact keepS _ ((Ext.refl _ _).alloc _).drew
                  | (refine keepS _ ?_; repeat (first | exact Ext.refl _ _ | assumption | exact (‹Ext NoS W _ ∧ _›).1 | refine Ext.drew ?_ | refine Ext.alloc ?_ _ | refine Ext.setCell ?_ (.inr ?_) _ | (simp; done)))
                  | skip)
                (first
                  | (go_at_call 40; ((with_reducible refine (HRD.out (World.drew (W.alloc (.cells #[.int .i64 0, .int .i64 0, .int .i64 0, .int .i64 0] 85)))).mono ?_)); rintro e' w3 ⟨v, rfl, _, hE3⟩; have hx3 := ((Ext.refl NoS W).alloc (.cells #[.int .i64 0, .int .i64 0, .int .i64 0, .int .i64 0] 85)).drew.trans' hE3; have hb3 := (Blk.new W 85 #[.int .i64 0, .int .i64 0, .int .i64 0, .int .i64 0]).ext ((Ext.refl NoS _).drew.trans' hE3) (fun h => h); have y0 : w3.cell? ⟨W.heap.size, 0, none⟩ = some (.int .i64 0) := hb3.cell 0; have z0 : w3.frozen? ⟨W.heap.size, 0, none⟩ = false := hb3.frozen 0; have y1 : w3.cell? ⟨W.heap.size, 1, none⟩ = some (.int .i64 0) := hb3.cell 1; have z1 : w3.frozen? ⟨W.heap.size, 1, none⟩ = false := hb3.frozen 1; have y2 : w3.cell? ⟨W.heap.size, 2, none⟩ = some (.int .i64 0) := hb3.cell 2; have z2 : w3.frozen? ⟨W.heap.size, 2, none⟩ = false := hb3.frozen 2; have y3 : w3.cell? ⟨W.heap.size, 3, none⟩ = some (.int .i64 0) := hb3.cell 3; have z3 : w3.frozen? ⟨W.heap.size, 3, none⟩ = false := hb3.frozen 3; clear hE3)
                  | (go_at_call 40; refine (HRD.out _).mono ?_; rintro e' w3 ⟨v, rfl, _, hE3⟩; have hx3 := (‹Ext NoS W _ ∧ _›).1.trans' hE3; clear hE3))
              all_goals
                go_wp2_with fail
                go_meet
                first
                  | exact ⟨rfl, hx3.alloc _, _, rfl, Blk.new w3 _ _⟩
                  | exact ⟨rfl, (((hx3.setCell (.inr (Nat.le_refl _)) _).setCell (.inr (Nat.le_refl _)) _).setCell (.inr (Nat.le_refl _)) _).setCell (.inr (Nat.le_refl _)) _, _, rfl, Room.four ⟨_, hb3, rfl⟩ _ _ _ _⟩
            case rest =>
              obtain ⟨rfl, hE6, b, rfl, hb6⟩ := hcut
              have hE7 : Ext NoS wr wc := HEW.out.trans' hE6
              have hjc := HJL.out.ext hE7 (fun h => h)
              have hEc : Ext (fun x => x = J) W5 wc := HEL.out.trans' hE7.of_no
              have hstep : lifeGo half (V.take (k + 1)) 0 (0, 0) = if readOk s kr = true then (max a.1 (sLife s), max a.2 (sEpoch s)) else a := by
                rw [List.take_succ_eq_append_getElem hkV, lifeGo_snoc, ← HS.out, ← HA.out, List.length_take, Nat.min_eq_left (by omega), Nat.zero_add, HKR.out]
              have HSTEP := hide hstep
              have HEC := hide hEc
              have HJC := hide hjc
              clear hstep hEc hjc hE7 hE6 keepS hrW hrem
              cases hok : readOk s kr with
              | false =>
                rw [hok] at HSTEP
                have HOK := hide hok
                clear hok hb6
                go_wp2
                go_roundw
                case rel => exact ⟨k + 1, a, hlt, by go_num, rfl, by rw [HSTEP.out, if_neg (by decide)], ha1, ha2, HEC.out, HJC.out⟩
                case measure => simp [intOf]; omega
              | true =>
                rw [hok, if_pos rfl, ← mLi_ok hok, ← mEp_ok hok] at HSTEP
                have HOK := hide hok
                clear hok
                have g0 := hb6.cell 0
                have g1 := hb6.cell 1
                have g3 := HJC.out.cell 3
                have t3 := HJC.out.frozen 3
                simp at g0 g1 g3
                have hl1 := mLi_lt s
                have hl2 := mEp_lt s
                obtain ⟨ls, hls⟩ : ∃ x, x = mLi s := ⟨_, rfl⟩
                obtain ⟨es, hes⟩ : ∃ x, x = mEp s := ⟨_, rfl⟩
                rw [← hls] at g1 hl1 HSTEP
                rw [← hes] at g0 hl2 HSTEP
                clear hls hes hb6
                go_upto_region 16 with fail
                have g0d : wc.drew.cell? ⟨b, 0, none⟩ = _ := g0
                have g1d : wc.drew.cell? ⟨b, 1, none⟩ = _ := g1
                have g3d : wc.drew.cell? ⟨J, 3, none⟩ = _ := g3
                have t3d : wc.drew.frozen? ⟨J, 3, none⟩ = false := t3
                go_region
                have hmax1 : (if a.1 < ls then (ls : Int) else (a.1 : Int)) = ((max a.1 ls : Nat) : Int) := by split <;> omega
                have hmax2 : (if a.2 < es then (es : Int) else (a.2 : Int)) = ((max a.2 es : Nat) : Int) := by split <;> omega
                rw [hmax1, hmax2]
                have hm1 : max a.1 ls < 4294967296 := by omega
                have hm2 : max a.2 es < 4294967296 := by omega
                have hjn : Blk (wc.setCell ⟨J, 3, none⟩ (.int .i64 (max a.1 ls : Nat))) J 82 #[.pointer (some ⟨d, 0, none⟩), .int .i64 0, .int .i64 0, .int .i64 (max a.1 ls : Nat), .int .i64 0, .slice none 0 0] := by
                  simpa using HJC.out.set 3 (.int .i64 (max a.1 ls : Nat))
                obtain ⟨l3, hl3⟩ : ∃ x, x = max a.1 ls := ⟨_, rfl⟩
                obtain ⟨e3, he3⟩ : ∃ x, x = max a.2 es := ⟨_, rfl⟩
                rw [← hl3] at hm1 hjn HSTEP ⊢
                rw [← he3] at hm2 HSTEP ⊢
                have HJN := hide hjn
                clear hjn hmax1 hmax2 hl3 he3 g0 g1 g3 t3 g0d g1d g3d t3d
                go_wp2
                go_roundw
                case rel => exact ⟨k + 1, (l3, e3), hlt, by go_num, rfl, HSTEP.out.symm, hm1, hm2, HEC.out.trans' (ext_setCell _ _ _ _).drew, HJN.out.ext (Ext.refl NoS _).drew (fun h => h)⟩
                case measure => simp [intOf]; omega
          · have hkk : k = h2h := by omega
            subst hkk
            have HJL := hide hjl
            have HEL := hide hEl
            have HA := hide ha
            clear hjl hEl ha
            have g3 := HJL.out.cell 3
            have t3 := HJL.out.frozen 3
            simp at g3
            obtain ⟨l0, hl0⟩ : ∃ x, x = a.1 := ⟨_, rfl⟩
            obtain ⟨e0, he0⟩ : ∃ x, x = a.2 := ⟨_, rfl⟩
            rw [← hl0] at g3 ha1
            rw [← he0] at ha2 ⊢
            have hadd : IntKind.i64.wrap ((l0 : Int) + 1) = (l0 : Int) + 1 := IntWalk.i64_in _ (by omega)
            have HL0 := hide hl0
            have HE0 := hide he0
            clear hl0 he0
            go_upto_region 19 with fail
            have hj6 := HJL.out.set 3 (.int .i64 ((l0 : Int) + 1))
            refine wp_world (fun W => Ext (fun x => x = J) W5 W ∧ Blk W J 82 #[.pointer (some ⟨d, 0, none⟩), .int .i64 0, .int .i64 0, .int .i64 (l0 + 1 : Nat), .int .i64 0, .slice none 0 0]) ⟨HEL.out.trans' (ext_setCell _ _ _ _), by simpa using hj6⟩ ?_
            clear hj6 HJL HEL hadd g3 t3
            rintro W ⟨hEW, hjW⟩
            have hvW := own_ext HV5.out hEW (fun g hg e => hgJ (by have h1 : gv = g := by simpa [Value.ownBlock] using hg
                                                                   exact h1.trans e))
            have hrV := own_range hvW rfl
            have hb1 : (half : Int) ≤ (k : Int) := by have := HH2H.out; omega
            have hcv : (k : Int) ≤ (cv : Int) := by
              obtain ⟨A', c', hv', hc', _⟩ := own_slice hvW
              injection hv' with _ _ e3
              have := e3
              omega
            have hmul : IntKind.i64.wrap ((2 : Int) * (half : Int)) = (k : Int) := by
              have : (2 : Int) * (half : Int) = (k : Int) := by have := HH2H.out; omega
              rw [this]
              exact IntWalk.i64_in _ (by omega)
            have hb2 : (half : Int) ≤ (cv : Int) := by omega
            have HEW := hide hEW
            have HJW := hide hjW
            have HMUL := hide hmul
            clear hEW hjW hmul
            obtain ⟨A, hA⟩ : ∃ A, A = V.take half := ⟨_, rfl⟩
            obtain ⟨A2, hA2⟩ : ∃ A2, A2 = (V.drop half).take half := ⟨_, rfl⟩
            have hVlen := HVL.out
            have hkS : k ≤ S.length := hh2
            have hcne : ¬ cv = half := by have := HH2H.out; omega
            have hAl : A.length = half := by rw [hA, List.length_take, hVlen]; have := HH2H.out; omega
            have hA2l : A2.length = half := by rw [hA2, List.length_take, List.length_drop, hVlen]; have := HH2H.out; omega
            have hsv32 : ∀ x ∈ V, (sv x).length = 32 := fun x hx => by rw [sv_length, HV32.out x hx]
            have hra : W.rangeAt gv 0 (A.flatMap sv) := by
              have h1 := range_take hrV (half * 32)
              rwa [flat_take sv 32 V half hsv32, ← hA] at h1
            have hrb : W.rangeAt gv (half * 32) (A2.flatMap sv) := by
              have h1 := range_take (range_drop hrV (half * 32)) (half * 32)
              rwa [flat_skip sv 32 V half hsv32, flat_take sv 32 (V.drop half) half (fun x hx => hsv32 x (List.mem_of_mem_drop hx)), ← hA2, Nat.zero_add] at h1
            obtain ⟨m0, hm0⟩ : ∃ m, m = W.heap.size := ⟨_, rfl⟩
            have hsa : ∀ W2, Ext NoS W W2 → Calls Try.prog 41 #[.slice (some ⟨gv, 0, none⟩) half cv] W2 (ScanP A m0 W2) := fun W2 h2 =>
              scan_p A m0 gv 0 cv half W2 (by rw [hm0]; exact h2.size) (range_ext hra h2 (fun h => h)) (fun s hs => HV32.out s (List.mem_of_mem_take (hA ▸ hs))) hAl (by omega) (by omega)
            have hsb : ∀ W2, Ext NoS W W2 → Calls Try.prog 41 #[.slice (some ⟨gv, half * 32, none⟩) (k - half) (cv - half)] W2 (ScanP A2 m0 W2) := fun W2 h2 =>
              scan_p A2 m0 gv (half * 32) (cv - half) (k - half) W2 (by rw [hm0]; exact h2.size) (range_ext hrb h2 (fun h => h)) (fun s hs => HV32.out s (List.mem_of_mem_drop (List.mem_of_mem_take (hA2 ▸ hs)))) (by have := HH2H.out; omega) (by omega) (by have := HH2H.out; omega)
            have HSA := hide hsa
            have HSB := hide hsb
            have HM0 := hide hm0
            have HAA := hide hA
            have HAB := hide hA2
            clear hsa hsb hm0 hA hA2 hra hrb hrV hsv32 hVlen hvW hkS hk
            have hmul := HMUL.out
            go_cut [15, 16] (fun v15 v16 w' => FinE W w' m0 v15 v16 (.int .i64 (scanEp A : Nat)) (.int .i64 ((scanA A).2 : Nat)) (.int .i64 (scanEp A2 : Nat)) (.int .i64 ((scanA A2).2 : Nat)) (scanA A).1 (scanA A2).1)
            case first =>
              clear HD1 HEV HE HE5 HEW HJW HA HL0 HE0 HV HVL HHALF HH2H HAA HAB HRB HJ HV5 HV32 HMUL
              go_region_law (first
                | (go_simp; go_at_call 41; ((with_reducible refine (HSA.out _ (((Ext.refl NoS W).alloc _).alloc _).drew).mono ?_)); rintro e' w3 ⟨va, rfl, hra, hE3⟩; have hx3 : Ext NoS W w3 := (((Ext.refl NoS W).alloc _).alloc _).drew.trans' hE3; have HA0 := hide (((Blk.new W 92 #[.int .i64 0, .int .i64 0, .slice none 0 0]).alloc (.cells #[.int .i64 0, .int .i64 0, .slice none 0 0] 92)).ext ((Ext.refl NoS _).drew.trans' hE3) (fun h => h)); have HA1 := hide (((Blk.new (W.alloc (.cells #[.int .i64 0, .int .i64 0, .slice none 0 0] 92)) 92 #[.int .i64 0, .int .i64 0, .slice none 0 0]).at_ (show _ = W.heap.size + 1 by simp)).ext ((Ext.refl NoS _).drew.trans' hE3) (fun h => h)); obtain ⟨_, hoA, _⟩ := id hra; obtain ⟨Aa, ca, hva, _, _⟩ := own_slice hoA; subst hva; clear hoA; have HRA := hide hra; clear hra hE3)
                | (go_simp; go_at_call 41; ((with_reducible refine (HSA.out _ ((Ext.refl NoS W).alloc _).drew).mono ?_)); rintro e' w3 ⟨va, rfl, hra, hE3⟩; have hx3 : Ext NoS W w3 := ((Ext.refl NoS W).alloc _).drew.trans' hE3; have HB0 := hide ((Blk.new W 92 #[.int .i64 0, .int .i64 0, .slice none 0 0]).ext ((Ext.refl NoS _).drew.trans' hE3) (fun h => h)); obtain ⟨_, hoA, _⟩ := id hra; obtain ⟨Aa, ca, hva, _, _⟩ := own_slice hoA; subst hva; clear hoA; have HRA := hide hra; clear hra hE3)
                | (go_simp; go_at_call 41; ((with_reducible refine (HSA.out _ (Ext.refl NoS W).drew).mono ?_)); rintro e' w3 ⟨va, rfl, hra, hE3⟩; have hx3 : Ext NoS W w3 := (Ext.refl NoS W).drew.trans' hE3; have HC0 := hide hx3; obtain ⟨_, hoA, _⟩ := id hra; obtain ⟨Aa, ca, hva, _, _⟩ := own_slice hoA; subst hva; clear hoA; have HRA := hide hra; clear hra hE3)
                | (have _g := HC0; go_simp; go_at_call 41; ((with_reducible refine (HSB.out _ hx3).mono ?_)); rintro e' w9 ⟨vb, rfl, hrb, hE9⟩; obtain ⟨_, hoB, _⟩ := id hrb; obtain ⟨Ab, cb, hvb, _, _⟩ := own_slice hoB; subst hvb; clear hoB; have HRB := hide hrb; have HRA9 := hide (HRA.out.ext ((Ext.refl NoS w3).trans' hE9) (fun _ _ h => h) (fun _ _ _ h => h)); have HX9 := hide (hx3.trans' ((Ext.refl NoS w3).trans' hE9)); have hm9 := hE9.size; (try simp at hm9); have hm3 := hx3.size; clear hrb; clear hm9 hm3)
                | (have _g := HC0; go_simp; go_at_call 41; ((with_reducible refine (HSB.out _ (hx3.alloc _)).mono ?_)); rintro e' w9 ⟨vb, rfl, hrb, hE9⟩; obtain ⟨_, hoB, _⟩ := id hrb; obtain ⟨Ab, cb, hvb, _, _⟩ := own_slice hoB; subst hvb; clear hoB; have HRB := hide hrb; have HRA9 := hide (HRA.out.ext (((Ext.refl NoS w3).alloc _).trans' hE9) (fun _ _ h => h) (fun _ _ _ h => h)); have HX9 := hide (hx3.trans' (((Ext.refl NoS w3).alloc _).trans' hE9)); have hm9 := hE9.size; (try simp at hm9); have hm3 := hx3.size; clear hrb; have hq1 := ((Blk.new w3 92 #[.int .i64 0, .int .i64 0, .slice none 0 0]).ext hE9 (fun h => h)); have hl1 := hq1.lt; obtain ⟨p10, p11, p12, r10, r11, r12⟩ := hq1.tell; have HQ1 := hide hq1; clear hq1; have lo1 : m0 ≤ w3.heap.size := (by have := HM0.out; omega); clear hm9 hm3)
                | (have _g := HC0; go_simp; go_at_call 41; ((with_reducible refine (HSB.out _ ((hx3.alloc _).alloc _)).mono ?_)); rintro e' w9 ⟨vb, rfl, hrb, hE9⟩; obtain ⟨_, hoB, _⟩ := id hrb; obtain ⟨Ab, cb, hvb, _, _⟩ := own_slice hoB; subst hvb; clear hoB; have HRB := hide hrb; have HRA9 := hide (HRA.out.ext ((((Ext.refl NoS w3).alloc _).alloc _).trans' hE9) (fun _ _ h => h) (fun _ _ _ h => h)); have HX9 := hide (hx3.trans' ((((Ext.refl NoS w3).alloc _).alloc _).trans' hE9)); have hm9 := hE9.size; (try simp at hm9); have hm3 := hx3.size; clear hrb; have hq1 := (((Blk.new w3 92 #[.int .i64 0, .int .i64 0, .slice none 0 0]).alloc (.cells #[.int .i64 0, .int .i64 0, .slice none 0 0] 92)).ext hE9 (fun h => h)); have hl1 := hq1.lt; obtain ⟨p10, p11, p12, r10, r11, r12⟩ := hq1.tell; have HQ1 := hide hq1; clear hq1; have lo1 : m0 ≤ w3.heap.size := (by have := HM0.out; omega); have hq2 := (((Blk.new (w3.alloc (.cells #[.int .i64 0, .int .i64 0, .slice none 0 0] 92)) 92 #[.int .i64 0, .int .i64 0, .slice none 0 0]).at_ (show _ = w3.heap.size + 1 by simp)).ext hE9 (fun h => h)); have hl2 := hq2.lt; obtain ⟨p20, p21, p22, r20, r21, r22⟩ := hq2.tell; have HQ2 := hide hq2; clear hq2; have lo2 : m0 ≤ w3.heap.size + 1 := (by have := HM0.out; omega); have ne1 : ¬ w3.heap.size = w3.heap.size + 1 := (by omega); have ne2 : ¬ w3.heap.size + 1 = w3.heap.size := (by omega); clear hm9 hm3)
                | (have _g := HB0; go_simp; go_at_call 41; ((with_reducible refine (HSB.out _ hx3).mono ?_)); rintro e' w9 ⟨vb, rfl, hrb, hE9⟩; obtain ⟨_, hoB, _⟩ := id hrb; obtain ⟨Ab, cb, hvb, _, _⟩ := own_slice hoB; subst hvb; clear hoB; have HRB := hide hrb; have HRA9 := hide (HRA.out.ext ((Ext.refl NoS w3).trans' hE9) (fun _ _ h => h) (fun _ _ _ h => h)); have HX9 := hide (hx3.trans' ((Ext.refl NoS w3).trans' hE9)); have hm9 := hE9.size; (try simp at hm9); have hm3 := hx3.size; clear hrb; have hq1 := (HB0.out.ext hE9 (fun h => h)); have hl1 := hq1.lt; obtain ⟨p10, p11, p12, r10, r11, r12⟩ := hq1.tell; have HQ1 := hide hq1; clear hq1; have lo1 : m0 ≤ W.heap.size := (by have := HM0.out; omega); clear hm9 hm3)
                | (have _g := HB0; go_simp; go_at_call 41; ((with_reducible refine (HSB.out _ (hx3.alloc _)).mono ?_)); rintro e' w9 ⟨vb, rfl, hrb, hE9⟩; obtain ⟨_, hoB, _⟩ := id hrb; obtain ⟨Ab, cb, hvb, _, _⟩ := own_slice hoB; subst hvb; clear hoB; have HRB := hide hrb; have HRA9 := hide (HRA.out.ext (((Ext.refl NoS w3).alloc _).trans' hE9) (fun _ _ h => h) (fun _ _ _ h => h)); have HX9 := hide (hx3.trans' (((Ext.refl NoS w3).alloc _).trans' hE9)); have hm9 := hE9.size; (try simp at hm9); have hm3 := hx3.size; clear hrb; have hq1 := ((HB0.out.alloc (.cells #[.int .i64 0, .int .i64 0, .slice none 0 0] 92)).ext hE9 (fun h => h)); have hl1 := hq1.lt; obtain ⟨p10, p11, p12, r10, r11, r12⟩ := hq1.tell; have HQ1 := hide hq1; clear hq1; have lo1 : m0 ≤ W.heap.size := (by have := HM0.out; omega); have hq2 := ((Blk.new w3 92 #[.int .i64 0, .int .i64 0, .slice none 0 0]).ext hE9 (fun h => h)); have hl2 := hq2.lt; obtain ⟨p20, p21, p22, r20, r21, r22⟩ := hq2.tell; have HQ2 := hide hq2; clear hq2; have lo2 : m0 ≤ w3.heap.size := (by have := HM0.out; omega); have ne1 : ¬ W.heap.size = w3.heap.size := (by have := HB0.out.lt; omega); have ne2 : ¬ w3.heap.size = W.heap.size := (by have := HB0.out.lt; omega); clear hm9 hm3)
                | (have _g := HA0; go_simp; go_at_call 41; ((with_reducible refine (HSB.out _ hx3).mono ?_)); rintro e' w9 ⟨vb, rfl, hrb, hE9⟩; obtain ⟨_, hoB, _⟩ := id hrb; obtain ⟨Ab, cb, hvb, _, _⟩ := own_slice hoB; subst hvb; clear hoB; have HRB := hide hrb; have HRA9 := hide (HRA.out.ext ((Ext.refl NoS w3).trans' hE9) (fun _ _ h => h) (fun _ _ _ h => h)); have HX9 := hide (hx3.trans' ((Ext.refl NoS w3).trans' hE9)); have hm9 := hE9.size; (try simp at hm9); have hm3 := hx3.size; clear hrb; have hq1 := (HA0.out.ext hE9 (fun h => h)); have hl1 := hq1.lt; obtain ⟨p10, p11, p12, r10, r11, r12⟩ := hq1.tell; have HQ1 := hide hq1; clear hq1; have lo1 : m0 ≤ W.heap.size := (by have := HM0.out; omega); have hq2 := (HA1.out.ext hE9 (fun h => h)); have hl2 := hq2.lt; obtain ⟨p20, p21, p22, r20, r21, r22⟩ := hq2.tell; have HQ2 := hide hq2; clear hq2; have lo2 : m0 ≤ W.heap.size + 1 := (by have := HM0.out; omega); have ne1 : ¬ W.heap.size = W.heap.size + 1 := (by omega); have ne2 : ¬ W.heap.size + 1 = W.heap.size := (by omega); clear hm9 hm3))
              all_goals
                go_wp2_with fail
                go_meet
                first
                  | with_reducible exact fin2 HQ1.out HQ2.out ne1 lo1 lo2 HM0.out HRA9.out HRB.out HX9.out _ _ _ _
                  | with_reducible exact fin2 HQ2.out HQ1.out ne2 lo2 lo1 HM0.out HRA9.out HRB.out HX9.out _ _ _ _
                  | with_reducible exact fin1a HQ1.out lo1 HM0.out HRA9.out HRB.out HX9.out _ _ _ _
                  | with_reducible exact fin1b HQ1.out lo1 HM0.out HRA9.out HRB.out HX9.out _ _ _ _
                  | with_reducible exact fin0a HM0.out HRA9.out HRB.out HX9.out _ _ _ _
                  | with_reducible exact fin0b HM0.out HRA9.out HRB.out HX9.out _ _ _ _
            case rest =>
              clear HSA HSB HMUL HV5 HV32 HVL
              obtain ⟨wq, hwq⟩ : ∃ x, x = wc := ⟨_, rfl⟩
              subst hwq
              obtain ⟨b15, b16, vra, vrb, rfl, rfl, hne, hlo1, hlo2, hb15, hb16, hra, hrb, hEc⟩ := hcut
              have hX : Ext NoS w wq := by
                have h1 := HE.out.trans' HEV.out
                have h2 := h1.trans' HE5.out
                have h3 : Ext NoS w W := h2.trans HEW.out (fun i hi e => by have := HJ.out; have := h1.size; omega)
                exact h3.trans' hEc
              have hJc := HJW.out.ext hEc (fun h => h)
              have hdc := HD1.out.no (HEV.out.trans' (HE5.out.trans (HEW.out.trans' hEc.of_no) (fun i hi e => by have := HJ.out; omega)))
              have hjd : ¬ J = d := hJc.ne_ hdc.blk (by decide)
              have hb15J : ¬ b15 = J := hb15.ne_ hJc (by decide)
              have hb16J : ¬ b16 = J := hb16.ne_ hJc (by decide)
              obtain ⟨_, hoA, _⟩ := id hra
              obtain ⟨Aa, ca, hva, _, _⟩ := own_slice hoA
              obtain ⟨_, hoB, _⟩ := id hrb
              obtain ⟨Ab, cb, hvb, _, _⟩ := own_slice hoB
              clear hoA hoB
              subst hva hvb
              have hlen1 := scanA_len A
              have hlen2 := scanA_len A2
              have hen1 := scanA_en A
              have hen2 := scanA_en A2
              have hep1 := scanEp_lt A
              have hep2 := scanEp_lt A2
              rw [hAl] at hlen1 hen1
              rw [hA2l] at hlen2 hen2
              have HRCA := hide hra
              have HRCB := hide hrb
              have hlv : lives V half = (l0, e0) := by
                rw [lives, ← HH2H.out, ← HA.out, HL0.out, HE0.out]
              have HLV := hide hlv
              have HJC := hide hJc
              have HDC := hide hdc
              have HX := hide hX
              have HB15 := hide hb15
              have HB16 := hide hb16
              obtain ⟨nA, hnA⟩ : ∃ x, x = (scanA A).1.length := ⟨_, rfl⟩
              obtain ⟨nB, hnB⟩ : ∃ x, x = (scanA A2).1.length := ⟨_, rfl⟩
              obtain ⟨eA, heA⟩ : ∃ x, x = scanEp A := ⟨_, rfl⟩
              obtain ⟨eB, heB⟩ : ∃ x, x = scanEp A2 := ⟨_, rfl⟩
              obtain ⟨sA, hsA⟩ : ∃ x, x = (scanA A).2 := ⟨_, rfl⟩
              obtain ⟨sB, hsB⟩ : ∃ x, x = (scanA A2).2 := ⟨_, rfl⟩
              rw [← hnA, ← heA, ← hsA] at hb15
              rw [← hnB, ← heB, ← hsB] at hb16
              rw [← hnA] at hlen1
              rw [← hnB] at hlen2
              rw [← heA] at hep1
              rw [← heB] at hep2
              have x0 := hb15.cell 0
              have x1 := hb15.cell 1
              have x2 := hb15.cell 2
              have y0 := hb16.cell 0
              have y1 := hb16.cell 1
              have y2 := hb16.cell 2
              have j3 := hJc.cell 3
              simp at x0 x1 x2 y0 y1 y2 j3
              have HNA := hide hnA
              have HNB := hide hnB
              have HEA := hide heA
              have HEB := hide heB
              have HSA2 := hide hsA
              have HSB2 := hide hsB
              clear hnA hnB heA heB hsA hsB hra hrb hEc hX hJc hdc hb15 hb16 hlv hen1 hen2 hAl hA2l hmul
              by_cases hworn : 1073741824 < l0 + 1 ∨ (nA + nB = 0 ∧ e0 = 1073741824)
              · as_aux_lemma =>
                  have hend : ∀ wf, Ext NoS wq wf → OpenPost B w d (.slice As S.length cs) (.slice Ap P.length cp) S P (.returned (.tuple #[.pointer none, .int .i64 420])) wf := fun wf hf =>
                    OpenPost.worn HRB.out HV.out HHALF.out HAA.out HAB.out HLV.out (by rw [← HNA.out, ← HNB.out]; exact hworn) rfl (HX.out.trans' hf)
                  have HEND := hide hend
                  clear hend
                  by_cases hl : 1073741824 < l0 + 1
                  · have hl2 : (1073741824 : Int) < (l0 : Int) + 1 := by omega
                    clear hworn
                    go_wp2
                    all_goals
                      go_ret2
                      exact HEND.out _ (Ext.refl _ _)
                  · have hz1 : nA = 0 := by omega
                    have hz2 : nB = 0 := by omega
                    have hz3 : e0 = 1073741824 := by omega
                    have hl2 : ¬ (1073741824 : Int) < (l0 : Int) + 1 := by omega
                    subst hz1 hz2
                    rw [hz3]
                    have HZ3 := hide hz3
                    clear hworn hz3
                    go_wp2
                    all_goals
                      go_ret2
                      exact HEND.out _ (Ext.refl _ _)
              have hl2 : ¬ (1073741824 : Int) < (l0 : Int) + 1 := by omega
              by_cases hz : nA + nB = 0
              · as_aux_lemma =>
                  have hz1 : nA = 0 := by omega
                  have hz2 : nB = 0 := by omega
                  subst hz1 hz2
                  have hz3 : ¬ (e0 : Int) = 1073741824 := by omega
                  have hadd : IntKind.i64.wrap ((e0 : Int) + 1) = (e0 : Int) + 1 := IntWalk.i64_in _ (by omega)
                  have f2 := HJC.out.frozen 2
                  have j2 := HJC.out.cell 2
                  simp at j2
                  go_upto_region 25 with fail
                  refine wp_world (fun W7 => Ext (fun x => x = J) wq W7 ∧ Blk W7 J 82 #[.pointer (some ⟨d, 0, none⟩), .int .i64 0, .int .i64 (e0 + 1 : Nat), .int .i64 (l0 + 1 : Nat), .int .i64 0, .slice none 0 0]) ⟨ext_setCell _ _ _ _, by simpa using HJC.out.set 2 (.int .i64 ((e0 : Int) + 1))⟩ ?_
                  rintro W7 ⟨hE7, hj7⟩
                  clear x0 x1 x2 y0 y1 y2 j3 f2 j2 hadd
                  have hjat : JAt B W7 J d (.slice As S.length cs) (.slice Ap P.length cp) (.slice none 0 0) S P 0 (e0 + 1) (l0 + 1) 0 [] :=
                    ⟨hj7, HDC.out.ext hE7 (fun e => hjd e.symm) (fun g hg e => own_ne HDC.out.safe HJC.out (by decide) (e ▸ hg)) (fun g hg e => own_ne HDC.out.pend HJC.out (by decide) (e ▸ hg)), Recs.nil _ _ _⟩
                  have hX7 : Ext NoS w W7 := HX.out.trans hE7 (fun i hi e => by
                    have := HJ.out; have := (HE.out.trans' HEV.out).size; omega)
                  obtain ⟨e1, he1⟩ : ∃ x, x = e0 + 1 := ⟨_, rfl⟩
                  obtain ⟨l1, hl1⟩ : ∃ x, x = l0 + 1 := ⟨_, rfl⟩
                  rw [← he1, ← hl1] at hj7 hjat
                  have he1b : e1 < 4294967296 := by
                    have := (lifeGo_le half (V.take k) 0 (0, 0) (by decide) (by decide)).2
                    rw [← HA.out, ← HE0.out] at this
                    omega
                  have hl1b : l1 < 4294967296 := by omega
                  have q2 := hj7.cell 2
                  have q3 := hj7.cell 3
                  simp at q2 q3
                  have keepS : ∀ w', Ext (fun k => k = d ∨ (Value.slice Ap P.length cp).ownBlock = some k) W7 w' → Ext (fun k => k = d ∨ (Value.slice Ap P.length cp).ownBlock = some k) W7 w' ∧ w'.cell? ⟨J, 2, none⟩ = some (.int .i64 e1) ∧ w'.cell? ⟨J, 3, none⟩ = some (.int .i64 l1) := fun w' h => by
                    have hne : ¬ (J = d ∨ (Value.slice Ap P.length cp).ownBlock = some J) := fun e => by
                      rcases e with e | e
                      · exact hjd e
                      · exact own_ne hjat.disk.pend hjat.jb (by decide) e
                    exact ⟨h, h.cell q2 hne, h.cell q3 hne⟩
                  have HJAT := hide hjat
                  have HX7 := hide hX7
                  have HE1 := hide he1
                  have HL1 := hide hl1
                  clear hE7 hj7 hjat hX7 he1 hl1
                  go_cut [] (fun w' => Ext (fun k => k = d ∨ (Value.slice Ap P.length cp).ownBlock = some k) W7 w' ∧ ∃ vp', DiskAt B w' d (.slice As S.length cs) vp' S (P ++ recW 0 e1 l1 0 []))
                  case first =>
                    have hwr : ∀ W2, Ext NoS W7 W2 → Calls Try.prog 35 #[.pointer (some ⟨J, 0, none⟩), .int .i64 0, .agg #[.int .i64 e1, .int .i64 l1, .int .i64 0, .int .i64 0], .slice none 0 0] W2 fun e w' => e = .returned (.tuple #[]) ∧ ∃ vp', DiskAt B w' d (.slice As S.length cs) vp' S (P ++ recW 0 e1 l1 0 []) ∧ Ext (fun k => k = d ∨ (Value.slice Ap P.length cp).ownBlock = some k) W2 w' := fun W2 h2 => by
                      have := write_t B J d 0 e1 l1 0 _ (.slice Ap P.length cp) _ S P [] W2 (by decide) he1b hl1b (by decide) (by decide) _ (HJAT.out.jb.ext h2 (fun h => h)) rfl (HJAT.out.disk.no h2) (Bytes.nil _ _) (by omega) (by omega) (by have := HX7.out.size; have := h2.size; omega)
                      rw [Nat.zero_mul] at this
                      exact this
                    have HWR := hide hwr; clear hwr
                    go_region_held3 (fun w' => Ext (fun k => k = d ∨ (Value.slice Ap P.length cp).ownBlock = some k) W7 w' ∧ w'.cell? ⟨J, 2, none⟩ = some (.int .i64 e1) ∧ w'.cell? ⟨J, 3, none⟩ = some (.int .i64 l1))
                      (first | exact keepS _ (Ext.refl _ _).drew | exact keepS _ (by assumption))
                      ((go_at_call 35; refine (HWR.out _ (Ext.refl NoS W7).drew).mono ?_; rintro e' w3 ⟨rfl, vp', hd3, hE3⟩; have hx3 : Ext (fun k => k = d ∨ (Value.slice Ap P.length cp).ownBlock = some k) W7 w3 := (Ext.refl _ W7).drew.trans' hE3))
                    all_goals
                      go_wp2_with fail
                      go_meet
                      exact ⟨hx3, _, hd3⟩
                  case rest =>
                    obtain ⟨hE3, vp', hd3⟩ := hcut
                    have hj3 := HJAT.out.write hE3 hd3
                    have hPl : (P ++ recW 0 e1 l1 0 []).length ≤ 1000000 := by
                      rw [List.length_append, recW_length]
                      have : needN ([] : List UInt8).length = 1 := by decide
                      omega
                    have hx3 : Ext (fun k => k = d ∨ (Value.slice As S.length cs).ownBlock = some k ∨ (Value.slice Ap P.length cp).ownBlock = some k) w wc := HX7.out.of_no.trans hE3 (fun i _ h => h.elim .inl (fun h => .inr (.inr h)))
                    have HJ3 := hide hj3
                    have HX3 := hide hx3
                    clear hj3 hx3 hE3 hd3 keepS q2 q3
                    go_upto_region 27 with (go_at_call 13; refine (sync_t B _ d _ vp' S _ HJ3.out.disk (by omega) hPl).mono ?_; rintro e w4 ⟨rfl, h1, h2⟩; have HD4 := hide h1; clear h1; have HE4 := hide h2; clear h2)
                    have hj4 := HJ3.out.synced HE4.out HD4.out
                    have hx4 : Ext (fun k => k = d ∨ (Value.slice As S.length cs).ownBlock = some k ∨ (Value.slice Ap P.length cp).ownBlock = some k) w w4 := HX3.out.trans HE4.out (fun i _ h => h.elim .inl (fun h => .inr (.inl h)))
                    have hb4 := hj4.jb
                    have h6 : Ext NoS w4 (w4.alloc (.cells #[.slice none 0 0] 46)) := (Ext.refl NoS w4).alloc _
                    have hb4a := hb4.ext h6 (fun h => h)
                    have y4 := hb4a.cell 4
                    have y5 := hb4a.cell 5
                    have z4 := hb4a.frozen 4
                    have z5 := hb4a.frozen 5
                    simp only [List.getElem?_toArray, List.getElem?_cons_succ, List.getElem?_cons_zero] at y4 y5
                    have HJ4 := hide hj4
                    have HX4 := hide hx4
                    have H6 := hide h6
                    have HB4 := hide hb4a
                    clear hj4 hx4 hb4 h6 hb4a
                    go_wp2
                    go_ret2
                    refine OpenPost.fresh HRB.out HV.out HHALF.out HAA.out HAB.out HLV.out (by omega) (by rw [← HNA.out, ← HNB.out]) (by omega) ⟨J, .slice (some ⟨w4.heap.size, 0, none⟩) 1 1, rfl, by have := HJ.out; have := (HE.out.trans' HEV.out).size; omega, ?_, fun g hg => .inr (by simp [Value.ownBlock] at hg; have := HX4.out.size; omega), ?_⟩
                    · have hb7 := (HB4.out.set 4 (.int .i64 1)).set 5 (.slice (some ⟨w4.heap.size, 0, none⟩) 1 1)
                      have hj : Ext (fun k => k = J) (w4.alloc (.cells #[.slice none 0 0] 46)) (((w4.alloc (.cells #[.slice none 0 0] 46)).setCell ⟨J, 4, none⟩ (.int .i64 1)).setCell ⟨J, 5, none⟩ (.slice (some ⟨w4.heap.size, 0, none⟩) 1 1)) := (ext_setCell _ _ _ _).trans' (ext_setCell _ _ _ _)
                      have hB5 : B ≤ w4.heap.size := by have := HX4.out.size; omega
                      rw [← HE1.out, ← HL1.out]
                      refine ⟨by simpa using hb7, ?_, ?_⟩
                      · have hd5 := HJ4.out.disk.no H6.out
                        exact hd5.ext hj (fun e => (e ▸ hd5.blk).ne_ HB4.out (by decide) rfl) (fun g hg e => own_ne hd5.safe HB4.out (by decide) (e ▸ hg)) (fun g hg e => own_ne hd5.pend HB4.out (by decide) (e ▸ hg))
                      · refine Recs.ext (S := fun k => k = J) (w := w4.alloc (.cells #[.slice none 0 0] 46)) ⟨[.slice none 0 0], World.ownsRow_lit (base := B) (e := 46) (size := 1) w4 #[.slice none 0 0] 1 hB5 (by unfold maxLen; omega) rfl, rfl, fun i hi hi' => ?_⟩ hj (fun g hg e => ?_) (fun x _ ⟨cs, hx⟩ e => (e ▸ hx).ne_ HB4.out (by decide) rfl)
                        · have : i = 0 := by simpa using hi
                          subst this
                          exact Bytes.nil _ _
                        · simp [Value.ownBlock] at hg
                          have := HJ4.out.jb.lt
                          have e : g = J := e
                          omega
                    · refine (HX4.out.trans' H6.out.of_no).trans ((ext_setCell _ _ _ _).trans' (ext_setCell _ _ _ _) : Ext (fun k => k = J) _ _) (fun i hi e => ?_)
                      have e : i = J := e
                      have := HJ.out
                      have := (HE.out.trans' HEV.out).size
                      omega
              · obtain ⟨useB, hu⟩ : ∃ u, u = (decide (nA = 0) || (decide (0 < nB) && decide (eA < eB))) := ⟨_, rfl⟩
                have hz1 : 0 < (nA : Int) + (nB : Int) := by omega
                have haddn : IntKind.i64.wrap ((nA : Int) + (nB : Int)) = (nA : Int) + (nB : Int) := IntWalk.i64_in _ (by omega)
                have HU := hide hu
                clear hu
                go_upto_region 29 with fail
                go_cut [164] (fun v164 w' => v164 = .bool useB ∧ wq = w')
                case first =>
                  go_wp2
                  all_goals
                    go_meet
                    refine ⟨congrArg Value.bool ?_, rfl⟩
                    rw [HU.out]
                    simp [*]
                case rest =>
                  obtain ⟨rfl, rfl⟩ := hcut
                  cases useB with
                  | true =>
                    as_aux_lemma =>
                      have g0 := HB15.out.frozen 0
                      have g1 := HB15.out.frozen 1
                      have g2 := HB15.out.frozen 2
                      have t1 := HJC.out.frozen 1
                      have s1 := HJC.out.cell 1
                      simp at s1
                      have hsz : (Try.prog.info? 92).map (·.size) = some 3 := sizeFound
                      go_upto_region 31 with fail
                      refine wp_world (fun W8 => Ext (fun x => x = b15 ∨ x = J) wq W8 ∧ Blk W8 b15 92 #[.int .i64 eB, .int .i64 sB, .slice Ab nB cb] ∧ Blk W8 J 82 #[.pointer (some ⟨d, 0, none⟩), .int .i64 1, .int .i64 0, .int .i64 (l0 + 1 : Nat), .int .i64 0, .slice none 0 0]) ⟨?_, ?_, ?_⟩ ?_
                      · exact (((((Ext.refl _ wq).setCell (.inl (.inl rfl)) _).setCell (.inl (.inl rfl)) _).setCell (.inl (.inl rfl)) _).setCell (.inl (.inr rfl)) _)
                      · exact (Room.three ⟨_, HB15.out, rfl⟩ _ _ _).far (fun e => hb15J e) _
                      · have h := ((HJC.out.far (fun e => hb15J e.symm) (p := ⟨b15, 0, none⟩) (.int .i64 eB)).far (fun e => hb15J e.symm) (p := ⟨b15, 1, none⟩) (.int .i64 sB)).far (fun e => hb15J e.symm) (p := ⟨b15, 2, none⟩) (.slice Ab nB cb)
                        simpa using h.set 1 (.int .i64 1)
                      rintro W8 ⟨hE8, hb8, hj8⟩
                      clear x0 x1 x2 y0 y1 y2 j3 g0 g1 g2 t1 s1 hsz
                      have x0 := hb8.cell 0
                      have x1 := hb8.cell 1
                      have x2 := hb8.cell 2
                      have j2 := hj8.cell 2
                      have j4 := hj8.cell 4
                      have j5 := hj8.cell 5
                      have f2 := hj8.frozen 2
                      have f4 := hj8.frozen 4
                      have f5 := hj8.frozen 5
                      simp at x0 x1 x2 j2 j4 j5
                      have HJ8 := hide hj8
                      have HE8 := hide hE8
                      clear hj8 hb8 hE8
                      go_cut [] (fun w' => Set3 W8 w' J 82 #[.pointer (some ⟨d, 0, none⟩), .int .i64 1, .int .i64 eB, .int .i64 (l0 + 1 : Nat), .int .i64 sB, .slice Ab nB cb])
                      case first =>
                        have keepS : ∀ w', Ext (fun x => x = J) W8 w' → Ext (fun x => x = J) W8 w' ∧ w'.cell? ⟨b15, 0, none⟩ = some (.int .i64 eB) ∧ w'.cell? ⟨b15, 1, none⟩ = some (.int .i64 sB) ∧ w'.cell? ⟨b15, 2, none⟩ = some (.slice Ab nB cb) := fun w' h => ⟨h, h.cell x0 hb15J, h.cell x1 hb15J, h.cell x2 hb15J⟩
                        go_region_held3 (fun w' => Ext (fun x => x = J) W8 w' ∧ w'.cell? ⟨b15, 0, none⟩ = some (.int .i64 eB) ∧ w'.cell? ⟨b15, 1, none⟩ = some (.int .i64 sB) ∧ w'.cell? ⟨b15, 2, none⟩ = some (.slice Ab nB cb))
                          (first | exact keepS _ (Ext.refl _ _).drew | exact keepS _ (ext_setCell _ _ _ _).drew | exact keepS _ ((ext_setCell _ _ _ _).trans' (ext_setCell _ _ _ _)).drew | exact keepS _ (((ext_setCell _ _ _ _).trans' (ext_setCell _ _ _ _)).trans' (ext_setCell _ _ _ _)).drew | exact keepS _ (ext_setCell _ _ _ _) | exact keepS _ ((ext_setCell _ _ _ _).trans' (ext_setCell _ _ _ _)))
                          (fail)
                        all_goals
                          go_wp2_with fail
                          go_meet
                          with_reducible refine set3 HJ8.out _ _ _ _ _ _ ?_
                          rfl
                      case rest =>
                        obtain ⟨hE9, hj9⟩ := hcut
                        have HE9 := hide hE9
                        have HJ9 := hide hj9
                        clear hE9 hj9 x0 x1 x2 j2 j4 j5 f2 f4 f5
                        go_wp2
                        go_ret2
                        have hxw := HX.out
                        have hEx : Ext (fun x => x = b15 ∨ x = J) wq wc := HE8.out.trans HE9.out (fun i _ e => .inr e)
                        refine OpenPost.old HRB.out HV.out HHALF.out HAA.out HAB.out HLV.out (by omega) (by rw [← HNA.out, ← HNB.out]; omega) true (by rw [← HNA.out, ← HNB.out, ← HEA.out, ← HEB.out]; exact HU.out) ⟨J, .slice Ab (scanA A2).1.length cb, rfl, by have := HJ.out; have := (HE.out.trans' HEV.out).size; omega, ?_, fun g hg => .inr (by obtain ⟨_, ho, _⟩ := HRCB.out; have := own_base ho hg; have := HM0.out; have := (((HE.out.trans' HEV.out).trans' HE5.out).size); have := HEW.out.size; omega), ?_⟩
                        · have hne1 : ∀ t cs x, BB wq x t cs → t ≠ 92 → t ≠ 82 → ¬ (x = b15 ∨ x = J) := fun t cs x hb h1 h2 h => by
                            rcases h with h | h
                            · exact (h ▸ hb).ne_ HB15.out h1 rfl
                            · exact (h ▸ hb).ne_ HJC.out h2 rfl
                          refine ⟨?_, ?_, ?_⟩
                          · have := HJ9.out
                            rw [HEB.out, HSB2.out, HNB.out] at this
                            simpa using this
                          · exact HDC.out.ext hEx (hne1 _ _ _ HDC.out.blk.bb (by decide) (by decide)) (fun g hg => by
                              obtain ⟨cur, hc, _⟩ := own_blk HDC.out.safe hg
                              exact hne1 _ _ _ hc.bb (by decide) (by decide)) (fun g hg => by
                              obtain ⟨cur, hc, _⟩ := own_blk HDC.out.pend hg
                              exact hne1 _ _ _ hc.bb (by decide) (by decide))
                          · have hrc := HRCB.out
                            skip
                            obtain ⟨vals, ho, hl, hv⟩ := hrc.low (show B ≤ m0 by have := HM0.out; have := (((HE.out.trans' HEV.out).trans' HE5.out).size); have := HEW.out.size; omega)
                            refine Recs.ext (K := fun _ => True) ⟨vals, ho, hl, fun i h1 h2 => (hv i h1 h2).mono fun x _ h => ⟨trivial, h.2⟩⟩ hEx (fun g hg => ?_) (fun b _ ⟨cs, hb⟩ => hne1 _ _ _ hb (by decide) (by decide))
                            obtain ⟨cur, hc, _⟩ := own_blk ho hg
                            exact hne1 _ _ _ hc.bb (by decide) (by decide)
                        · refine hxw.trans hEx (fun i hi e => ?_)
                          have h1 := HJ.out
                          have h2 := (HE.out.trans' HEV.out).size
                          have h3 := HM0.out
                          have h4 := (((HE.out.trans' HEV.out).trans' HE5.out).size)
                          have h5 := HEW.out.size
                          rcases e with e | e <;> omega
                  | false =>
                    as_aux_lemma =>
                      go_upto_region 31 with fail
                      obtain ⟨W8, hW8⟩ : ∃ W8, W8 = wq := ⟨_, rfl⟩
                      have hE8 : Ext (fun x => x = b15 ∨ x = J) wq W8 := by rw [hW8]; exact Ext.refl _ _
                      have hj8 : Blk W8 J 82 #[.pointer (some ⟨d, 0, none⟩), .int .i64 0, .int .i64 0, .int .i64 (l0 + 1 : Nat), .int .i64 0, .slice none 0 0] := by rw [hW8]; exact HJC.out
                      have hb8 : Blk W8 b15 92 #[.int .i64 eA, .int .i64 sA, .slice Aa nA ca] := by rw [hW8, HEA.out, HSA2.out, HNA.out]; exact HB15.out
                      rw [← hW8]
                      clear hW8 x0 x1 x2 y0 y1 y2 j3
                      have x0 := hb8.cell 0
                      have x1 := hb8.cell 1
                      have x2 := hb8.cell 2
                      have j2 := hj8.cell 2
                      have j4 := hj8.cell 4
                      have j5 := hj8.cell 5
                      have f2 := hj8.frozen 2
                      have f4 := hj8.frozen 4
                      have f5 := hj8.frozen 5
                      simp at x0 x1 x2 j2 j4 j5
                      have HJ8 := hide hj8
                      have HE8 := hide hE8
                      clear hj8 hb8 hE8
                      go_cut [] (fun w' => Set3 W8 w' J 82 #[.pointer (some ⟨d, 0, none⟩), .int .i64 0, .int .i64 eA, .int .i64 (l0 + 1 : Nat), .int .i64 sA, .slice Aa nA ca])
                      case first =>
                        have keepS : ∀ w', Ext (fun x => x = J) W8 w' → Ext (fun x => x = J) W8 w' ∧ w'.cell? ⟨b15, 0, none⟩ = some (.int .i64 eA) ∧ w'.cell? ⟨b15, 1, none⟩ = some (.int .i64 sA) ∧ w'.cell? ⟨b15, 2, none⟩ = some (.slice Aa nA ca) := fun w' h => ⟨h, h.cell x0 hb15J, h.cell x1 hb15J, h.cell x2 hb15J⟩
                        go_region_held3 (fun w' => Ext (fun x => x = J) W8 w' ∧ w'.cell? ⟨b15, 0, none⟩ = some (.int .i64 eA) ∧ w'.cell? ⟨b15, 1, none⟩ = some (.int .i64 sA) ∧ w'.cell? ⟨b15, 2, none⟩ = some (.slice Aa nA ca))
                          (first | exact keepS _ (Ext.refl _ _).drew | exact keepS _ (ext_setCell _ _ _ _).drew | exact keepS _ ((ext_setCell _ _ _ _).trans' (ext_setCell _ _ _ _)).drew | exact keepS _ (((ext_setCell _ _ _ _).trans' (ext_setCell _ _ _ _)).trans' (ext_setCell _ _ _ _)).drew | exact keepS _ (ext_setCell _ _ _ _) | exact keepS _ ((ext_setCell _ _ _ _).trans' (ext_setCell _ _ _ _)))
                          (fail)
                        all_goals
                          go_wp2_with fail
                          go_meet
                          with_reducible refine set3 HJ8.out _ _ _ _ _ _ ?_
                          rfl
                      case rest =>
                        obtain ⟨hE9, hj9⟩ := hcut
                        have HE9 := hide hE9
                        have HJ9 := hide hj9
                        clear hE9 hj9 x0 x1 x2 j2 j4 j5 f2 f4 f5
                        go_wp2
                        go_ret2
                        have hxw := HX.out
                        have hEx : Ext (fun x => x = b15 ∨ x = J) wq wc := HE8.out.trans HE9.out (fun i _ e => .inr e)
                        refine OpenPost.old HRB.out HV.out HHALF.out HAA.out HAB.out HLV.out (by omega) (by rw [← HNA.out, ← HNB.out]; omega) false (by rw [← HNA.out, ← HNB.out, ← HEA.out, ← HEB.out]; exact HU.out) ⟨J, .slice Aa (scanA A).1.length ca, rfl, by have := HJ.out; have := (HE.out.trans' HEV.out).size; omega, ?_, fun g hg => .inr (by obtain ⟨_, ho, _⟩ := HRCA.out; have := own_base ho hg; have := HM0.out; have := (((HE.out.trans' HEV.out).trans' HE5.out).size); have := HEW.out.size; omega), ?_⟩
                        · have hne1 : ∀ t cs x, BB wq x t cs → t ≠ 92 → t ≠ 82 → ¬ (x = b15 ∨ x = J) := fun t cs x hb h1 h2 h => by
                            rcases h with h | h
                            · exact (h ▸ hb).ne_ HB15.out h1 rfl
                            · exact (h ▸ hb).ne_ HJC.out h2 rfl
                          refine ⟨?_, ?_, ?_⟩
                          · have := HJ9.out
                            rw [HEA.out, HSA2.out, HNA.out] at this
                            simpa using this
                          · exact HDC.out.ext hEx (hne1 _ _ _ HDC.out.blk.bb (by decide) (by decide)) (fun g hg => by
                              obtain ⟨cur, hc, _⟩ := own_blk HDC.out.safe hg
                              exact hne1 _ _ _ hc.bb (by decide) (by decide)) (fun g hg => by
                              obtain ⟨cur, hc, _⟩ := own_blk HDC.out.pend hg
                              exact hne1 _ _ _ hc.bb (by decide) (by decide))
                          · have hrc := HRCA.out
                            skip
                            obtain ⟨vals, ho, hl, hv⟩ := hrc.low (show B ≤ m0 by have := HM0.out; have := (((HE.out.trans' HEV.out).trans' HE5.out).size); have := HEW.out.size; omega)
                            refine Recs.ext (K := fun _ => True) ⟨vals, ho, hl, fun i h1 h2 => (hv i h1 h2).mono fun x _ h => ⟨trivial, h.2⟩⟩ hEx (fun g hg => ?_) (fun b _ ⟨cs, hb⟩ => hne1 _ _ _ hb (by decide) (by decide))
                            obtain ⟨cur, hc, _⟩ := own_blk ho hg
                            exact hne1 _ _ _ hc.bb (by decide) (by decide)
                        · refine hxw.trans hEx (fun i hi e => ?_)
                          have h1 := HJ.out
                          have h2 := (HE.out.trans' HEV.out).size
                          have h3 := HM0.out
                          have h4 := (((HE.out.trans' HEV.out).trans' HE5.out).size)
                          have h5 := HEW.out.size
                          rcases e with e | e <;> omega
end Go.Proofs.Ytmhhfhmpdpgmbaa
