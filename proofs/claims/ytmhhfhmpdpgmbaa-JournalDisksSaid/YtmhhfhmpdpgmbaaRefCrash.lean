/- Crash as the reference has it. -/
import Derived.Test.YtmhhfhmpdpgmbaaGiven
namespace Go.Proofs.Ytmhhfhmpdpgmbaa
open Go.RowKit

set_option maxRecDepth 100000 in
set_option maxHeartbeats 8000000 in
theorem refCrash_t (vs vp vl : Value) (S : List Sec) (P : List (Int × Sec)) (L : List Bool) (w : World) (h1 : RowAt w vs S.length (S.flatMap sv)) (h2 : RowAt w vp P.length (P.flatMap wv)) (hl : Bools (fun _ => True) w vl L) (s32 : ∀ s ∈ S, s.length = 32) (p32 : ∀ x ∈ P, x.2.length = 32)
    (hS : S.length ≤ 100000) (hP : P.length ≤ 100000) (_hL : L.length ≤ 1000000000) :
    Calls Try.prog 15 #[.agg #[vs, vp], vl] w fun e w' => ∃ vs', e = .returned (.agg #[vs', .slice none 0 0]) ∧ w'.ownsRow w.heap.size 77 32 vs' S.length ((crash S P L).flatMap sv) ∧ Ext NoS w w' := by
  have k1 := h1
  have k2 := h2
  obtain ⟨As, cs, rfl, _, _⟩ := h1
  obtain ⟨Ap, cp, rfl, _, _⟩ := h2
  obtain ⟨Al, cl, rfl, hcl, hlr⟩ := hl
  have HR1 := hide k1
  have HR2 := hide k2
  have HLR := hide hlr
  have HS32 := hide s32
  have HP32 := hide p32
  clear k1 k2 s32 p32 hlr
  go_enter Try.func15, Try.ntmps15
  go_upto_region 1 with fail
  obtain ⟨g1, hg1⟩ : ∃ g, g = w.heap.size := ⟨_, rfl⟩
  obtain ⟨g2, hg2⟩ : ∃ g, g = w.heap.size + 1 := ⟨_, rfl⟩
  rw [← hg2, ← hg1]
  refine wp_world (fun W => Ext NoS w W ∧ Blk W g1 36 #[.slice As S.length cs, .slice Ap P.length cp] ∧ Blk W g2 36 #[.slice none 0 0, .slice none 0 0])
    ⟨((Ext.refl _ _).alloc _).alloc _, by rw [hg1]; exact (Blk.new w _ _).alloc _, ?_⟩ ?_
  · rw [hg2]
    have := Blk.new (w.alloc (.cells #[.slice As S.length cs, .slice Ap P.length cp] 36)) 36 #[.slice none 0 0, .slice none 0 0]
    simpa using this
  rintro W ⟨hEW, hb1, hb2⟩
  have HG := hide (show w.heap.size ≤ g1 ∧ w.heap.size ≤ g2 ∧ g1 ≠ g2 by omega)
  have HEW := hide hEW
  have HB1 := hide hb1
  have HB2 := hide hb2
  clear hg1 hg2 hEW hb1 hb2
  have d0 := ((Ext.refl NoS W).alloc (.cells #[] 77)).cell (HB1.out.cell 0) (fun h => h)
  simp at d0
  go_wp2_with (at_builtin; refine Hid.out ?_)
  refine hide ?_
  obtain ⟨A', c', hv', hc', hsr⟩ := HR1.out.ext HEW.out
  injection hv' with hA _ hcc
  subst hA hcc
  refine wpList_append_any rfl _ _ 33 rfl W.heap.size 77 _ 32 32 Try.underlying33 infoRSec rfl (by decide) _ 0 [] rfl (own_empty W 77 32) As S.length cs (S.flatMap sv) rfl (flat_length sv 32 S (fun x hx => by rw [sv_length, HS32.out x hx])) (fun hn => by obtain ⟨b, o, h1, h2⟩ := hsr hn; exact ⟨b, o, h1, range_ext h2 ((Ext.refl NoS W).alloc (.cells #[] 77)) (fun h => h)⟩) (secs_one S) (by unfold maxLen; omega) (by omega) (by simp) ?_
  intro v11 W2 ho2 hg2' _
  have hE2 := ext_copy hg2'
  simp only [Nat.zero_add, List.nil_append] at ho2
  obtain ⟨A11, c11, rfl, _, _⟩ := own_slice ho2
  have HO2 := hide ho2
  have HE2 := hide hE2
  clear ho2 hg2' hE2 hsr hc' d0
  go_upto_block 0 with fail
  obtain ⟨g3, hg3⟩ : ∃ g, g = W2.heap.size := ⟨_, rfl⟩
  rw [← hg3]
  refine wp_world (fun W3 => Ext NoS W2 W3 ∧ Blk W3 g3 36 #[.slice A11 S.length c11, .slice none 0 0]) ⟨(Ext.refl _ _).alloc _, by rw [hg3]; exact Blk.new _ _ _⟩ ?_
  rintro W3 ⟨hE3, hb3⟩
  have HB3 := hide hb3
  have HG3 := hide (show W.heap.size ≤ g3 by rw [hg3]; exact HE2.out.size)
  have HB1' := hide (HB1.out.ext (HE2.out.trans' hE3) (fun h => h))
  have HB2' := hide (HB2.out.ext (HE2.out.trans' hE3) (fun h => h))
  have HO3 := hide (own_ext HO2.out hE3 (fun _ _ h => h))
  have HW3 := hide ((HEW.out.trans' HE2.out).trans' hE3)
  have HWS := hide HEW.out.size
  have HWZ := hide (show W.heap.size ≤ W3.heap.size from (HE2.out.trans' hE3).size)
  clear hg3 hE3 hb3 HB1 HB2 HO2 HE2 HEW HR1
  go_cut [] (fun w' => Ext NoS w w' ∧ Blk w' g2 36 #[.slice none 0 0, .slice none 0 0] ∧ Blk w' g3 36 #[.slice A11 S.length c11, .slice none 0 0] ∧ w'.ownsRow W.heap.size 77 32 (.slice A11 S.length c11) S.length ((crash S P L).flatMap sv))
  case first =>
    go_upto_region 3 with fail
    go_loopw [6] (fun v6 wr => ∃ k : Nat, v6 = .int .i64 k ∧ k ≤ P.length ∧ Ext NoS w wr ∧ Blk wr g1 36 #[.slice As S.length cs, .slice Ap P.length cp] ∧ Blk wr g2 36 #[.slice none 0 0, .slice none 0 0] ∧ Blk wr g3 36 #[.slice A11 S.length c11, .slice none 0 0] ∧
      wr.ownsRow W.heap.size 77 32 (.slice A11 S.length c11) S.length ((crash S (P.take k) L).flatMap sv)) (fun v _ => P.length - (intOf v).toNat)
    case atStart => exact ⟨0, rfl, Nat.zero_le _, HW3.out, HB1'.out, HB2'.out, HB3.out, HO3.out⟩
    case round =>
      clear HB1' HB2' HB3 HO3 HW3
      obtain ⟨k, rfl, hk, hE, hb1, hb2, hb3, ho⟩ := hrel
      have HE := hide hE
      have HB1 := hide hb1
      have HB2 := hide hb2
      have HB3 := hide hb3
      have HO := hide ho
      have p1 := hb1.cell 1
      have c0 := hb3.cell 0
      simp at p1 c0
      clear hE hb1 hb2 hb3 ho
      by_cases hlt : k < P.length
      · have hlti : (k : Int) < (P.length : Int) := by omega
        obtain ⟨b, o, rfl, hrw⟩ := HR2.out.elem (fun x hx => by rw [wv_length, HP32.out x hx]) (by decide) k hlt
        have hr := range_ext hrw HE.out (fun h => h)
        obtain ⟨x, hx⟩ : ∃ x, x = P[k] := ⟨_, rfl⟩
        rw [← hx] at hr hrw
        have hx32 : x.2.length = 32 := by rw [hx]; exact HP32.out _ (List.getElem_mem _)
        have hsz2 : (Try.prog.info? 77).map (·.size) = some (sv x.2).length := by rw [sizeRSec, sv_length, hx32]
        have HX32 := hide hx32
        have e0 : wr.cell? ⟨b, o + k * 33, none⟩ = some (.int .i64 x.1) := hr 0 _ rfl
        have r1 : wr.rangeAt b (o + k * 33 + 1) (sv x.2) := range_drop hr 1
        have hbw : b < w.heap.size := World.block_lt_of_cell? w _ (hrw 0 _ rfl)
        have hcs2 := crash_take_succ S P L k hlt
        rw [← hx] at hcs2
        have hcl2 := crash_length S (P.take k) L
        have HC := hide hcs2
        have HCL := hide hcl2
        have HC32 := hide (fun s hs => crash_all32 S (P.take k) L HS32.out (fun y hy => HP32.out y (List.mem_of_mem_take hy)) s hs)
        clear hcs2 hcl2 hx hr hrw hx32
        have hgone : (L.length ≤ k ∧ L.getD k false = false) ∨ (∃ bl ol, k < L.length ∧ Al = some ⟨bl, ol, none⟩ ∧ ((wr.cell? ⟨bl, ol + k, none⟩ = some (.bool false) ∧ L.getD k false = false) ∨ (wr.cell? ⟨bl, ol + k, none⟩ = some (.bool true) ∧ L.getD k false = true))) := by
          by_cases hkl : L.length ≤ k
          · exact .inl ⟨hkl, by simp [hkl]⟩
          · right
            obtain ⟨bl, ol, hAl, _, hrl⟩ := HLR.out (by intro h; rw [h] at hkl; simp at hkl)
            have hc := HE.out.cell (hrl k (.bool (L[k]'(by omega))) (by simp [show k < L.length by omega])) (fun h => h)
            refine ⟨bl, ol, by omega, hAl, ?_⟩
            rw [List.getD_eq_getElem?_getD, List.getElem?_eq_getElem (by omega)]
            cases hL : L[k]'(by omega)
            · exact .inl ⟨by rw [hc, hL], rfl⟩
            · exact .inr ⟨by rw [hc, hL], rfl⟩
        rcases hgone with ⟨hkl, hgd⟩ | ⟨bl, ol, hkl, hAl, ⟨hcl, hgd⟩ | ⟨hcl, hgd⟩⟩
        case inr.inr =>
          subst hAl
          have hkl' : (k : Int) < (L.length : Int) := by omega
          have HGD := hide hgd
          clear hgd
          go_upto_region 6 with fail
          go_quiet (fail)
          go_wp2
          go_roundw
          case rel => exact ⟨k + 1, by go_num, hlt, HE.out.drewN _, HB1.out.ext ((Ext.refl NoS _).drewN _) (fun h => h), HB2.out.ext ((Ext.refl NoS _).drewN _) (fun h => h), HB3.out.ext ((Ext.refl NoS _).drewN _) (fun h => h), by rw [HC.out, put1_skip _ _ _ (.inl HGD.out)]; exact own_ext HO.out ((Ext.refl NoS _).drewN _) (fun _ _ h => h)⟩
          case measure => simp [intOf]; omega
        all_goals
          have HGD := hide hgd
          clear hgd
          try (have hkl' : (k : Int) < (L.length : Int) := by omega)
          try (have hkl'' : ¬ (k : Int) < (L.length : Int) := by omega)
          try subst hAl
          by_cases hx0 : x.1 < 0
          · have hd0 : decide (0 ≤ x.1) = false := by simpa using hx0
            go_upto_region 6 with fail
            go_quiet (fail)
            go_wp2
            go_roundw
            case rel => exact ⟨k + 1, by go_num, hlt, HE.out.drewN _, HB1.out.ext ((Ext.refl NoS _).drewN _) (fun h => h), HB2.out.ext ((Ext.refl NoS _).drewN _) (fun h => h), HB3.out.ext ((Ext.refl NoS _).drewN _) (fun h => h), by rw [HC.out, put1_skip _ _ _ (.inr (.inl hx0))]; exact own_ext HO.out ((Ext.refl NoS _).drewN _) (fun _ _ h => h)⟩
            case measure => simp [intOf]; omega
          · have hx0' : 0 ≤ x.1 := by omega
            clear hx0
            by_cases hx1 : x.1 < (S.length : Int)
            · obtain ⟨gs, rfl⟩ : ∃ gs, A11 = some ⟨gs, 0, none⟩ := by
                rcases HO.out.2 with ⟨_, h0⟩ | ⟨g, cap, cur, hv, _⟩
                · omega
                · exact ⟨g, by injection hv⟩
              obtain ⟨cur, hcur, _, hbs, hszc⟩ := own_blk HO.out rfl
              have hbs : W.heap.size ≤ gs := hbs
              have th : wr.there gs (x.1.toNat * 32) 32 := hcur.there _ _ (by omega)
              have n1 : ¬ g1 = gs := HB1.out.ne_ hcur (by decide)
              have n2 : ¬ g2 = gs := HB2.out.ne_ hcur (by decide)
              have n3 : ¬ g3 = gs := HB3.out.ne_ hcur (by decide)
              have nb : ¬ b = gs := by have := HWS.out; omega
              have hu77 := Try.underlying77
              have hl32 : (sv x.2).length = 32 := by rw [sv_length]; exact HX32.out
              have hone := sv_one x.2
              clear hcur hszc
              go_upto_region 6 with fail
              go_quiet (fail)
              go_upto_region 7 with fail
              go_region_held3 (fun w' => w'.cell? ⟨g3, 0, none⟩ = some (.slice (some ⟨gs, 0, none⟩) S.length c11) ∧ w'.cell? ⟨g1, 1, none⟩ = some (.slice (some ⟨b, o, none⟩) P.length cp) ∧ w'.cell? ⟨b, o + k * 33, none⟩ = some (.int .i64 x.1) ∧ w'.rangeAt b (o + k * 33 + 1) (sv x.2) ∧ w'.there gs (x.1.toNat * 32) 32)
                (first
                  | exact ⟨c0, p1, e0, r1, th⟩
                  | (refine ⟨?_, ?_, ?_, ?_, ?_⟩
                     · exact cell_sets (by exact c0) n3
                     · exact cell_sets (by exact p1) n1
                     · exact cell_sets (by exact e0) nb
                     · exact range_sets (by exact r1) nb
                     · exact World.there_setCells (by exact th) _ _ _)) (fail)
              go_wp2
              go_roundw
              case rel =>
                have hx7 : Ext (fun y => y = gs) wr _ := (((Ext.refl _ wr).drewN nq).drew).trans' (ext_setCells _ gs (x.1.toNat * 32) (sv x.2))
                refine ⟨k + 1, by go_num, hlt, HE.out.trans hx7 (fun i hi e => by have := HWS.out; have e : i = gs := e; omega), HB1.out.ext hx7 n1, HB2.out.ext hx7 n2, HB3.out.ext hx7 n3, ?_⟩
                rw [HC.out, HGD.out, put1_in _ _ hx0' (by rw [HCL.out]; exact hx1)]
                have ho8 := own_ext HO.out (((Ext.refl NoS wr).drewN nq).drew) (fun _ _ h => h)
                rw [← HCL.out] at ho8 ⊢
                exact own_set ho8 (fun s hs => by rw [sv_length, HC32.out s hs]) rfl x.1.toNat (by rw [HCL.out]; omega) x.2 (by rw [sv_length]; exact HX32.out)
              case measure => simp [intOf]; omega
            · have hd0 : decide (x.1 < (S.length : Int)) = false := by simpa using hx1
              go_upto_region 6 with fail
              go_quiet (fail)
              go_wp2
              go_roundw
              case rel => exact ⟨k + 1, by go_num, hlt, HE.out.drewN _, HB1.out.ext ((Ext.refl NoS _).drewN _) (fun h => h), HB2.out.ext ((Ext.refl NoS _).drewN _) (fun h => h), HB3.out.ext ((Ext.refl NoS _).drewN _) (fun h => h), by rw [HC.out, put1_skip _ _ _ (.inr (.inr (by rw [HCL.out]; omega)))]; exact own_ext HO.out ((Ext.refl NoS _).drewN _) (fun _ _ h => h)⟩
              case measure => simp [intOf]; omega
      · have hkn : k = P.length := by omega
        have hlti : ¬ (k : Int) < (P.length : Int) := by omega
        go_wp2
        go_meet
        have := HO.out
        rw [hkn, List.take_length] at this
        exact ⟨HE.out, HB2.out, HB3.out, this⟩
  case rest =>
    obtain ⟨hE, hb2, hb3, ho⟩ := hcut
    have r0 := hb3.cell 0
    have r1 := hb3.cell 1
    have q0 := hb2.cell 0
    have q1 := hb2.cell 1
    have f0 := hb2.frozen 0
    have f1 := hb2.frozen 1
    simp at r0 r1 q0 q1
    have hb6 := (hb2.set 0 (.slice A11 S.length c11)).set 1 (.slice none 0 0)
    have hx6 := (ext_setCell wc g2 0 (.slice A11 S.length c11)).trans' (ext_setCell _ g2 1 (.slice none 0 0))
    have HFIN := hide (And.intro hb6 (And.intro hx6 (And.intro hE (And.intro ho hb2))))
    clear hb6 hx6 hE ho hb2 HB1' HB2' HB3 HO3 HW3
    go_wp2
    obtain ⟨hb6, hx6, hE, ho, hb2⟩ := HFIN.out
    refine bodyPost_ret (results_cell_row rfl _ _ g2 36 #[.slice A11 S.length c11, .slice none 0 0] (0, 0) _ rfl (by have h := hb6; simp at h; exact h) Try.underlying36 rfl (by kernel_rfl)) rfl ?_
    exact ⟨_, rfl, own_low (own_ext ho hx6 (fun g hg e => own_ne ho hb2 (by decide) (by have e : g = g2 := e; rw [← e]; exact hg))) HWS.out, hE.trans hx6 (fun i hi e => by have := HG.out; have e : i = g2 := e; omega)⟩
end Go.Proofs.Ytmhhfhmpdpgmbaa
