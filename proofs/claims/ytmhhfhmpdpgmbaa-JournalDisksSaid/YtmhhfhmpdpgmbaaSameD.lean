/- same: a disk against that of the reference, where both are one. -/
import Derived.Test.YtmhhfhmpdpgmbaaGiven
namespace Go.Proofs.Ytmhhfhmpdpgmbaa
open Go.RowKit Go.BigFrame

theorem equalIn_rsame (w : World) (a : Sec) (ha : a.length = 32) : (Op.equalIn 10000 77 (.agg (sv a).toArray) (.agg (sv a).toArray)).run Try.prog w = .ok true w := by
  have h : (Op.equalIn 10000 77 (.agg (sv a).toArray) (.agg (sv a).toArray)).run Try.prog w = .ok (a == a) w := run_equalIn_bytes w 9998 77 5 32 Try.underlying77 Try.underlying5 size1w a a ha ha
  rw [h, beq_self_eq_true]

set_option maxRecDepth 100000 in
set_option maxHeartbeats 8000000 in
theorem same_t (d : Nat) (vs vp vs' vp' : Value) (S : List Sec) (P : List (Int × Sec)) (w : World) (hd : Blk w d 25 #[vs, vp]) (h1 : RowAt w vs S.length (S.flatMap sv)) (h2 : RowAt w vp P.length (P.flatMap wv))
    (h3 : RowAt w vs' S.length (S.flatMap sv)) (h4 : RowAt w vp' P.length (P.flatMap wv)) (s32 : ∀ s ∈ S, s.length = 32) (p32 : ∀ x ∈ P, x.2.length = 32) (hS : S.length ≤ 100000) (hP : P.length ≤ 100000) :
    Calls Try.prog 14 #[.pointer (some ⟨d, 0, none⟩), .agg #[vs', vp']] w fun e w' => e = .returned (.bool true) ∧ Ext NoS w w' := by
  have k1 := h1
  have k2 := h2
  have k3 := h3
  have k4 := h4
  obtain ⟨As, cs, rfl, _, _⟩ := h1
  obtain ⟨Ap, cp, rfl, _, _⟩ := h2
  obtain ⟨Bs, ds, rfl, _, _⟩ := h3
  obtain ⟨Bp, dp, rfl, _, _⟩ := h4
  have HR1 := hide k1
  have HR2 := hide k2
  have HR3 := hide k3
  have HR4 := hide k4
  have HS32 := hide s32
  have HP32 := hide p32
  have HD := hide hd
  clear k1 k2 k3 k4 s32 p32 hd
  obtain ⟨n, hn⟩ : ∃ n, n = S.length := ⟨_, rfl⟩
  obtain ⟨m, hm⟩ : ∃ n, n = P.length := ⟨_, rfl⟩
  rw [← hn] at HR1 HR3 HD hS ⊢
  rw [← hm] at HR2 HR4 HD hP ⊢
  have HN := hide hn
  have HM := hide hm
  clear hn hm
  go_enter Try.func14, Try.ntmps14
  go_upto_region 1 with fail
  obtain ⟨g1, hg1⟩ : ∃ g, g = w.heap.size := ⟨_, rfl⟩
  rw [← hg1]
  refine wp_world (fun W => Ext NoS w W ∧ Blk W g1 36 #[.slice Bs n ds, .slice Bp m dp]) ⟨(Ext.refl _ _).alloc _, by rw [hg1]; exact Blk.new w _ _⟩ ?_
  rintro W ⟨hEW, hb1⟩
  have HEW := hide hEW
  have HB1 := hide hb1
  have HDW := hide (HD.out.ext hEW (fun h => h))
  clear hg1 hEW hb1 HD
  have q0 := HB1.out.cell 0
  have q1 := HB1.out.cell 1
  have r0 := HDW.out.cell 0
  have r1 := HDW.out.cell 1
  simp at q0 q1 r0 r1
  go_quiet (fail)
  have HB2 := hide (HB1.out.ext ((Ext.refl NoS W).drewN nq) (fun h => h))
  have HD2 := hide (HDW.out.ext ((Ext.refl NoS W).drewN nq) (fun h => h))
  have HE2 := hide (HEW.out.drewN nq)
  obtain ⟨w2, h2⟩ : ∃ x, x = W.drewN nq := ⟨_, rfl⟩
  rw [← h2] at HB2 HD2 HE2 ⊢
  have r0 : w2.cell? ⟨d, 0, none⟩ = some (.slice As n cs) := by rw [h2]; exact r0
  clear h2 q0 q1 r1 HB1 HDW HEW
  go_upto_block 0 with fail
  clear r0
  go_cut [] (fun w' => Ext NoS w2 w')
  case first =>
    go_upto_region 4 with fail
    go_loopw [36] (fun v w' => ∃ i : Nat, v = .int .i64 i ∧ i ≤ n ∧ Ext NoS w2 w') (fun v _ => n - (intOf v).toNat)
    case atStart => exact ⟨0, rfl, Nat.zero_le _, Ext.refl _ _⟩
    case round =>
      obtain ⟨i, rfl, hi, hE⟩ := hrel
      have q0 := (HB2.out.ext hE (fun h => h)).cell 0
      have r0 := (HD2.out.ext hE (fun h => h)).cell 0
      simp at q0 r0
      have HE := hide hE
      clear hE
      by_cases hlt : i < n
      · have hlti : (i : Int) < (n : Int) := by omega
        have hiS : i < S.length := by rw [← HN.out]; exact hlt
        obtain ⟨b1, o1, rfl, hr1⟩ := ((HR1.out.ext HE2.out).ext HE.out).elem (fun x hx => by rw [sv_length, HS32.out x hx]) (by decide) i hiS
        obtain ⟨b3, o3, rfl, hr3⟩ := ((HR3.out.ext HE2.out).ext HE.out).elem (fun x hx => by rw [sv_length, HS32.out x hx]) (by decide) i hiS
        obtain ⟨s, hs⟩ : ∃ s, s = S[i] := ⟨_, rfl⟩
        rw [← hs] at hr1 hr3
        have h32 : s.length = 32 := by rw [hs]; exact HS32.out _ (List.getElem_mem _)
        have heq := fun w => equalIn_rsame w s h32
        have HL1 := hide (show ∀ W' : World, (∃ k, W' = wr.drewN k) → W'.rangeAt b1 (o1 + i * 32) (sv s) from fun W' ⟨k, e⟩ => by subst e; exact hr1)
        have HL3 := hide (show ∀ W' : World, (∃ k, W' = wr.drewN k) → W'.rangeAt b3 (o3 + i * 32) (sv s) from fun W' ⟨k, e⟩ => by subst e; exact hr3)
        have HZ1 := hide (show (Try.prog.info? 53).map (·.size) = some (sv s).length by rw [sizeSec, sv_length, h32])
        have HZ3 := hide (show (Try.prog.info? 77).map (·.size) = some (sv s).length by rw [sizeRSec, sv_length, h32])
        clear hs h32 hr1 hr3
        go_upto_region 6 with fail
        refine wp_region_quiet_lit (by kernel_rfl) (by kernel_rfl) ?_
        repeat (go_big_quiet_step (fail))
        refine wpQuiet_load_mid (o := ⟨some 45, _, _, _, _, _⟩) rfl 53 _ rfl b1 (o1 + i * 32) rfl (sv s) _ HL1.out Try.underlying53 rfl HZ1.out ?_
        simp only [Act.put, List.setIfInBounds_toArray, List.set_cons_zero, List.set_cons_succ]
        repeat (go_big_quiet_step (fail))
        refine wpQuiet_load_mid (o := ⟨some 50, _, _, _, _, _⟩) rfl 77 _ rfl b3 (o3 + i * 32) rfl (sv s) _ HL3.out Try.underlying77 rfl HZ3.out ?_
        simp only [Act.put, List.setIfInBounds_toArray, List.set_cons_zero, List.set_cons_succ]
        repeat (go_big_quiet_step (fail))
        refine wpQuiet_nil ?_
        intro _ hw'
        obtain ⟨nq, hw''⟩ := hw'
        subst hw''
        go_wp2
        go_roundw
        case rel => exact ⟨i + 1, by go_num, hlt, HE.out.drewN _⟩
        case measure => simp [intOf]; omega
      · have hin : i = n := by omega
        subst hin
        go_wp2
        go_meet
        exact HE.out
  case rest =>
    obtain ⟨w3, h3⟩ : ∃ x, x = wc := ⟨_, rfl⟩
    subst h3
    have HB3 := hide (HB2.out.ext hcut (fun h => h))
    have HD3 := hide (HD2.out.ext hcut (fun h => h))
    have HE3 := hide (HE2.out.trans' hcut)
    clear hcut HB2 HD2 HE2
    have r1 := HD3.out.cell 1
    simp at r1
    go_upto_block 2 with fail
    clear r1
    go_cut [] (fun w' => Ext NoS w3 w')
    case first =>
      go_upto_region 10 with fail
      go_loopw [58] (fun v w' => ∃ i : Nat, v = .int .i64 i ∧ i ≤ m ∧ Ext NoS w3 w') (fun v _ => m - (intOf v).toNat)
      case atStart => exact ⟨0, rfl, Nat.zero_le _, Ext.refl _ _⟩
      case round =>
        obtain ⟨i, rfl, hi, hE⟩ := hrel
        have q1 := (HB3.out.ext hE (fun h => h)).cell 1
        have r1 := (HD3.out.ext hE (fun h => h)).cell 1
        simp at q1 r1
        have HE := hide hE
        clear hE
        by_cases hlt : i < m
        · have hlti : (i : Int) < (m : Int) := by omega
          have hiS : i < P.length := by rw [← HM.out]; exact hlt
          obtain ⟨b1, o1, rfl, hr1⟩ := ((HR2.out.ext HE3.out).ext HE.out).elem (fun x hx => by rw [wv_length, HP32.out x hx]) (by decide) i hiS
          obtain ⟨b3, o3, rfl, hr3⟩ := ((HR4.out.ext HE3.out).ext HE.out).elem (fun x hx => by rw [wv_length, HP32.out x hx]) (by decide) i hiS
          obtain ⟨x, hx⟩ : ∃ s, s = P[i] := ⟨_, rfl⟩
          rw [← hx] at hr1 hr3
          have h32 : x.2.length = 32 := by rw [hx]; exact HP32.out _ (List.getElem_mem _)
          have heq := fun w => equalIn_rsame w x.2 h32
          have e1 : wr.cell? ⟨b1, o1 + i * 33, none⟩ = some (.int .i64 x.1) := hr1 0 _ rfl
          have e3 : wr.cell? ⟨b3, o3 + i * 33, none⟩ = some (.int .i64 x.1) := hr3 0 _ rfl
          have HL1 := hide (show ∀ W' : World, (∃ k, W' = wr.drewN k) → W'.rangeAt b1 (o1 + i * 33 + 1) (sv x.2) from fun W' ⟨k, e⟩ => by subst e; exact range_drop hr1 1)
          have HL3 := hide (show ∀ W' : World, (∃ k, W' = wr.drewN k) → W'.rangeAt b3 (o3 + i * 33 + 1) (sv x.2) from fun W' ⟨k, e⟩ => by subst e; exact range_drop hr3 1)
          have HZ1 := hide (show (Try.prog.info? 53).map (·.size) = some (sv x.2).length by rw [sizeSec, sv_length, h32])
          have HZ3 := hide (show (Try.prog.info? 77).map (·.size) = some (sv x.2).length by rw [sizeRSec, sv_length, h32])
          clear hx h32 hr1 hr3
          go_upto_region 12 with fail
          refine wp_region_quiet_lit (by kernel_rfl) (by kernel_rfl) ?_
          repeat (go_big_quiet_step (fail))
          refine wpQuiet_load_mid (o := ⟨some 84, _, _, _, _, _⟩) rfl 53 _ rfl b1 (o1 + i * 33 + 1) rfl (sv x.2) _ HL1.out Try.underlying53 rfl HZ1.out ?_
          simp only [Act.put, List.setIfInBounds_toArray, List.set_cons_zero, List.set_cons_succ]
          repeat (go_big_quiet_step (fail))
          refine wpQuiet_load_mid (o := ⟨some 90, _, _, _, _, _⟩) rfl 77 _ rfl b3 (o3 + i * 33 + 1) rfl (sv x.2) _ HL3.out Try.underlying77 rfl HZ3.out ?_
          simp only [Act.put, List.setIfInBounds_toArray, List.set_cons_zero, List.set_cons_succ]
          repeat (go_big_quiet_step (fail))
          refine wpQuiet_nil ?_
          intro _ hw'
          obtain ⟨nq, hw''⟩ := hw'
          subst hw''
          go_wp2
          go_roundw
          case rel => exact ⟨i + 1, by go_num, hlt, HE.out.drewN _⟩
          case measure => simp [intOf]; omega
        · have hin : i = m := by omega
          subst hin
          go_wp2
          go_meet
          exact HE.out
    case rest =>
      go_wp2
      go_ret
      exact ⟨rfl, HE3.out.trans' hcut⟩
end Go.Proofs.Ytmhhfhmpdpgmbaa
