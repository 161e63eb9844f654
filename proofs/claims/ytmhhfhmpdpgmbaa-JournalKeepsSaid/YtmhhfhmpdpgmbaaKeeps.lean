/- JournalKeeps: the walk. -/
import Derived.Test.YtmhhfhmpdpgmbaaKeepM
namespace Go.Proofs.Ytmhhfhmpdpgmbaa
open Go.RowKit

/-- What holds at the head of a round: the journal, its records, and how many of them are safe. -/
def KeepR (B : Nat) (w : World) (d N k : Nat) (vs v5 v8 v9 : Value) (wr : World) : Prop :=
  ∃ (j ar ep li en safe : Nat) (vp vr : Value) (S : List Sec) (P : List (Int × Sec)) (recs : List (List UInt8)), v5 = .pointer (some ⟨j, 0, none⟩) ∧ v9 = .int .i64 safe ∧
    Kept B w j d N k wr vs vp vr S P ar ep li en recs safe ∧ Mod wr B v8 recs ∧ Sep vr v8

set_option maxRecDepth 100000 in
set_option maxHeartbeats 8000000 in
theorem keeps_t (sz : Nat) (A : Option Addr) (n c : Nat) (st : Nat → St) (w : World) (hsz : sz < 256) (hst : StepsAt w A n st) (hn : n ≤ 9223372036854775807) :
    Calls Try.prog 7 #[.int .u8 sz, .slice A n c] w fun e w' => e = .returned (.bool true) ∧ Ext NoS w w' := by
  have HST := hide hst
  clear hst
  obtain ⟨N, hN⟩ : ∃ N, N = 4 + sz % 64 := ⟨_, rfl⟩
  have hN4 : 4 ≤ N := by omega
  have hN67 : N ≤ 67 := by omega
  have HN := hide hN
  clear hN
  go_enter Try.func7, Try.ntmps7
  go_upto_region 3 with (go_at_call 10; refine (awake_t _).mono ?_; rintro e w0 ⟨rfl, hE0⟩; have HE0 := hide hE0; clear hE0)
  obtain ⟨B, hB⟩ : ∃ B, B = w0.heap.size := ⟨_, rfl⟩
  have HB := hide hB
  have hbg := begun_t sz w0 hsz
  rw [← hB, ← HN.out] at hbg
  have HBG := hide hbg
  clear hbg hB
  go_upto_region 6 with (go_at_call 17; refine HBG.out.mono ?_; rintro e w1 ⟨j, d, vs, vr, rfl, hj, hd, hjat, hE1⟩; have HK := hide (Kept.new HB.out hN4 hj hd hjat hE1); clear hjat hE1)
  clear HBG
  have hos := HK.out.jat.disk.safe
  rw [HK.out.hS] at hos
  obtain ⟨As, cs, rfl, _, _⟩ := own_slice hos
  clear hos
  have hrc := HK.out.records (by decide)
  have HRC := hide hrc
  clear hrc
  go_upto_region 7 with (go_at_call 26; refine HRC.out.mono ?_; rintro e w2 ⟨v2, rfl, hr2, hE2⟩; have hm2 : Mod w2 B v2 [[]] := (hr2.low (by have := HK.out.ext.size; have := HB.out; omega)).mono (fun _ _ _ => trivial); have hs2 : Sep vr v2 := sep_fresh HK.out.jat (fun g hg => by obtain ⟨vals, ho, _⟩ := hr2; exact own_base ho hg); obtain ⟨A2, c2, hv2, hk2⟩ := hr2.rd; subst hv2; obtain ⟨b4, o4, Ak, ck, hA4, hc4, _⟩ := hk2 0 (by decide); subst hA4; simp at hc4; have HM2 := hide hm2; have HS2 := hide hs2; have HK2 := hide (HK.out.no hE2); clear hr2 hk2 hm2 hs2 hE2)
  clear HK HRC
  go_upto_region 10 with fail
  clear hc4
  go_loopw [5, 8, 9, 41] (fun v5 v8 v9 v41 wr => ∃ k : Nat, k ≤ n ∧ k ≤ 30 ∧ v41 = .int .i64 k ∧ KeepR B w0 d N k (.slice As N cs) v5 v8 v9 wr) (fun _ _ _ i _ => n - (intOf i).toNat)
  case atStart => exact ⟨0, Nat.zero_le _, by decide, rfl, _, _, _, _, _, _, _, _, _, _, _, rfl, rfl, HK2.out, HM2.out, HS2.out⟩
  case round =>
    clear HK2 HM2 HS2
    obtain ⟨k, hk, hk30, rfl, j, ar, ep, li, en, safe, vp, vr, S, P, recs, rfl, rfl, hkept, hmod, hsep⟩ := hrel
    obtain ⟨AM, cM, rfl⟩ : ∃ A c, u8 = .slice A recs.length c := by
      obtain ⟨vals, ho, _⟩ := hmod
      obtain ⟨A, c, h, _⟩ := own_slice ho
      exact ⟨A, c, h⟩
    have HK := hide hkept
    have HM := hide hmod
    have HS := hide hsep
    clear hkept hmod hsep
    by_cases hlt : k < n
    · by_cases h30 : k = 30
      · subst h30
        obtain ⟨b, o, rfl, q0, q1, q2, q3⟩ := HST.out 30 hlt
        have q0 := HE0.out.cell q0 (fun h => h)
        have q1 := HE0.out.cell q1 (fun h => h)
        have q2 := HE0.out.cell q2 (fun h => h)
        have q3 := HE0.out.cell q3 (fun h => h)
        have q0 := HK.out.ext.cell q0 (fun h => h)
        have q1 := HK.out.ext.cell q1 (fun h => h)
        have q2 := HK.out.ext.cell q2 (fun h => h)
        have q3 := HK.out.ext.cell q3 (fun h => h)
        go_wp2
        go_ret
        exact ⟨rfl, HE0.out.trans' (HK.out.ext.alloc _)⟩
      · obtain ⟨b, o, rfl, q0, q1, q2, q3⟩ := HST.out k hlt
        have q0 := HE0.out.cell q0 (fun h => h)
        have q1 := HE0.out.cell q1 (fun h => h)
        have q2 := HE0.out.cell q2 (fun h => h)
        have q3 := HE0.out.cell q3 (fun h => h)
        have q0 := HK.out.ext.cell q0 (fun h => h)
        have q1 := HK.out.ext.cell q1 (fun h => h)
        have q2 := HK.out.ext.cell q2 (fun h => h)
        have q3 := HK.out.ext.cell q3 (fun h => h)
        have hkl := (st k).hl
        have hkm := (st k).hm
        have hkk := (st k).hk
        have hko := (st k).hlo
        obtain ⟨sk, hsk⟩ : ∃ x, x = (st k).k := ⟨_, rfl⟩
        obtain ⟨sl, hsl⟩ : ∃ x, x = (st k).l := ⟨_, rfl⟩
        obtain ⟨sm, hsm⟩ : ∃ x, x = (st k).m := ⟨_, rfl⟩
        obtain ⟨so, hso⟩ : ∃ x, x = (st k).lo := ⟨_, rfl⟩
        rw [← hsk] at q0 hkk
        rw [← hsl] at q1 hkl
        rw [← hsm] at q2 hkm
        rw [← hso] at q3 hko
        clear hsk hsl hsm hso
        have HKO := hide hko
        have hk30i : ¬ (k : Int) = 30 := by omega
        have hk29 : k ≤ 29 := by omega
        clear hko
        go_upto_region 13 with fail
        refine wp_world (fun W => Ext NoS wr W ∧ Blk W wr.heap.size 45 #[.int .u8 sk, .int .u8 sl, .int .u8 sm, .int .u64 so]) ⟨(Ext.refl _ _).alloc _, Blk.new _ _ _⟩ ?_
        rintro W ⟨hEW, hbW⟩
        obtain ⟨sb, hsb⟩ : ∃ x, x = wr.heap.size := ⟨_, rfl⟩
        rw [← hsb] at hbW ⊢
        obtain ⟨rb, hrl, -, hrec⟩ := record_b sk sl sm so k W hkl hkm (by omega)
        have HREC := hide hrec
        have g0 := hbW.cell 0
        have g1 := hbW.cell 1
        have g2 := hbW.cell 2
        have g3 := hbW.cell 3
        simp at g0 g1 g2 g3
        have HBW := hide hbW
        have HEW := hide hEW
        clear q0 q1 q2 q3 hbW hEW hsb hrec
        go_upto_region 14 with (go_at_call 18; refine HREC.out.mono ?_; rintro e w5 ⟨A5, c5, rfl, hb5, hE5⟩; have HB5 := hide hb5; have HE5 := hide (HEW.out.trans' hE5); have HBL := hide (HBW.out.ext hE5 (fun h => h)); clear hb5 hE5)
        have HK5 := hide (HK.out.no HE5.out)
        have HM5 := hide (HM.out.ext HE5.out (fun _ _ h => h) (fun _ _ _ h => h))
        clear g0 g1 g2 g3 HBW HEW HK HM HE5 HREC
        obtain ⟨r, hr⟩ : ∃ r, r = sk % 8 := ⟨_, rfl⟩
        have hrem : (sk : Int) % 8 = (r : Int) := by omega
        have hr8 : r < 8 := by omega
        have g0 := HBL.out.cell 0
        simp at g0
        have HREM := hide hrem
        clear hr hrem
        go_upto_block 2 with fail
        go_cut [5, 8, 9] (fun v5 v8 v9 w' => KeepR B w0 d N (k + 1) (.slice As N cs) v5 v8 v9 w')
        case first =>
          have hBw : ∀ W, Ext NoS w0 W → B ≤ W.heap.size := fun W h => by rw [HB.out]; exact h.size
          have HBW := hide hBw
          clear hBw
          by_cases h03 : r ≤ 3
          · have h4 : r = 0 ∨ r = 1 ∨ r = 2 ∨ r = 3 := by omega
            by_cases hf : needN rb.length ≤ N / 2 - en
            · have hc := (HK5.out.app HB.out hN67 (by omega) _ rb HB5.out hrl).1 hf
              have HC := hide hc
              have hrb := HK5.out.hrc
              clear hc hf h03 hr8
              rcases h4 with h | h | h | h
              all_goals
                first | (have e0 : ((sk : Int) % 8 == 0) = true := by rw [HREM.out, h]; rfl) | (have e0 : ((sk : Int) % 8 == 0) = false := by rw [HREM.out, h]; rfl)
                first | (have e1 : ((sk : Int) % 8 == 1) = true := by rw [HREM.out, h]; rfl) | (have e1 : ((sk : Int) % 8 == 1) = false := by rw [HREM.out, h]; rfl)
                first | (have e2 : ((sk : Int) % 8 == 2) = true := by rw [HREM.out, h]; rfl) | (have e2 : ((sk : Int) % 8 == 2) = false := by rw [HREM.out, h]; rfl)
                first | (have e3 : ((sk : Int) % 8 == 3) = true := by rw [HREM.out, h]; rfl) | (have e3 : ((sk : Int) % 8 == 3) = false := by rw [HREM.out, h]; rfl)
                first | (have e4 : ((sk : Int) % 8 == 4) = true := by rw [HREM.out, h]; rfl) | (have e4 : ((sk : Int) % 8 == 4) = false := by rw [HREM.out, h]; rfl)
                first | (have e5 : ((sk : Int) % 8 == 5) = true := by rw [HREM.out, h]; rfl) | (have e5 : ((sk : Int) % 8 == 5) = false := by rw [HREM.out, h]; rfl)
                first | (have e6 : ((sk : Int) % 8 == 6) = true := by rw [HREM.out, h]; rfl) | (have e6 : ((sk : Int) % 8 == 6) = false := by rw [HREM.out, h]; rfl)
                first | (have e7 : ((sk : Int) % 8 == 7) = true := by rw [HREM.out, h]; rfl) | (have e7 : ((sk : Int) % 8 == 7) = false := by rw [HREM.out, h]; rfl)
                clear h
                go_wp2_with (first
                  | (go_at_call 20; refine HC.out.mono ?_; rintro e w6 ⟨rfl, vp6, vr6, hk6, hfr6, hx6⟩; have HK6 := hide hk6; have HS6 := hide (sep_fr HM5.out HS.out hfr6); have HM6 := hide (mod_js HK5.out.jat HM5.out HS.out hx6); have HB6 := hide (HB5.out.kept hx6 HK5.out.jat); clear hk6 hfr6 hx6)
                  | (at_builtin; refine Hid.out ?_))
                refine hide ?_
                obtain ⟨vals, hvo, hvl, hvb⟩ := HM6.out
                refine wpList_append_any rfl _ _ 67 rfl B 46 _ 1 24 Try.underlying67 infoBs rfl (by decide) _ recs.length vals rfl (own_ext hvo ((Ext.refl NoS w6).alloc _) (fun _ _ h => h)) (some ⟨w6.heap.size, 0, none⟩) 1 1 [.slice A5 rb.length c5] rfl rfl (fun _ => ⟨_, _, rfl, (Blk.new w6 _ _).all⟩) (by simp [Value.oneCell']) (by unfold maxLen; omega) (by omega) (by have := HBW.out _ HK6.out.ext; simp; omega) ?_
                intro v7 w7 ho7 hg7 hor7
                have hx7 := ext_push hg7
                have HM7 := hide (mod_push vals hvl hvb HM6.out hx7 ho7 HB6.out)
                have HS7 := hide (sep_push HK6.out.jat HS6.out hor7)
                have HK7 := hide (HK6.out.mod HB.out HM6.out HS6.out hx7)
                clear hvo hvl hvb ho7 hg7 hor7 hx7 HK6 HM6 HS6 HB6
                go_wp2
                go_meet
                exact ⟨_, _, _, _, _, _, _, _, _, _, _, rfl, rfl, HK7.out, HM7.out, HS7.out⟩
            · have hc := (HK5.out.app HB.out hN67 (by omega) _ rb HB5.out hrl).2 hf
              have HC := hide hc
              clear hc hf h03 hr8
              rcases h4 with h | h | h | h
              all_goals
                first | (have e0 : ((sk : Int) % 8 == 0) = true := by rw [HREM.out, h]; rfl) | (have e0 : ((sk : Int) % 8 == 0) = false := by rw [HREM.out, h]; rfl)
                first | (have e1 : ((sk : Int) % 8 == 1) = true := by rw [HREM.out, h]; rfl) | (have e1 : ((sk : Int) % 8 == 1) = false := by rw [HREM.out, h]; rfl)
                first | (have e2 : ((sk : Int) % 8 == 2) = true := by rw [HREM.out, h]; rfl) | (have e2 : ((sk : Int) % 8 == 2) = false := by rw [HREM.out, h]; rfl)
                first | (have e3 : ((sk : Int) % 8 == 3) = true := by rw [HREM.out, h]; rfl) | (have e3 : ((sk : Int) % 8 == 3) = false := by rw [HREM.out, h]; rfl)
                first | (have e4 : ((sk : Int) % 8 == 4) = true := by rw [HREM.out, h]; rfl) | (have e4 : ((sk : Int) % 8 == 4) = false := by rw [HREM.out, h]; rfl)
                first | (have e5 : ((sk : Int) % 8 == 5) = true := by rw [HREM.out, h]; rfl) | (have e5 : ((sk : Int) % 8 == 5) = false := by rw [HREM.out, h]; rfl)
                first | (have e6 : ((sk : Int) % 8 == 6) = true := by rw [HREM.out, h]; rfl) | (have e6 : ((sk : Int) % 8 == 6) = false := by rw [HREM.out, h]; rfl)
                first | (have e7 : ((sk : Int) % 8 == 7) = true := by rw [HREM.out, h]; rfl) | (have e7 : ((sk : Int) % 8 == 7) = false := by rw [HREM.out, h]; rfl)
                clear h
                go_wp2_with (go_at_call 20; refine HC.out.mono ?_; rintro e w6 ⟨rfl, hx6⟩; have HK6 := hide (HK5.out.no hx6); have HM6 := hide (HM5.out.ext hx6 (fun _ _ h => h) (fun _ _ _ h => h)); clear hx6)
                go_meet
                exact ⟨_, _, _, _, _, _, _, _, _, _, _, rfl, rfl, HK6.out.up, HM6.out, HS.out⟩
          · by_cases h4 : r = 4
            · have h := h4
              clear h03 hr8 h4
              first | (have e0 : ((sk : Int) % 8 == 0) = true := by rw [HREM.out, h]; rfl) | (have e0 : ((sk : Int) % 8 == 0) = false := by rw [HREM.out, h]; rfl)
              first | (have e1 : ((sk : Int) % 8 == 1) = true := by rw [HREM.out, h]; rfl) | (have e1 : ((sk : Int) % 8 == 1) = false := by rw [HREM.out, h]; rfl)
              first | (have e2 : ((sk : Int) % 8 == 2) = true := by rw [HREM.out, h]; rfl) | (have e2 : ((sk : Int) % 8 == 2) = false := by rw [HREM.out, h]; rfl)
              first | (have e3 : ((sk : Int) % 8 == 3) = true := by rw [HREM.out, h]; rfl) | (have e3 : ((sk : Int) % 8 == 3) = false := by rw [HREM.out, h]; rfl)
              first | (have e4 : ((sk : Int) % 8 == 4) = true := by rw [HREM.out, h]; rfl) | (have e4 : ((sk : Int) % 8 == 4) = false := by rw [HREM.out, h]; rfl)
              first | (have e5 : ((sk : Int) % 8 == 5) = true := by rw [HREM.out, h]; rfl) | (have e5 : ((sk : Int) % 8 == 5) = false := by rw [HREM.out, h]; rfl)
              first | (have e6 : ((sk : Int) % 8 == 6) = true := by rw [HREM.out, h]; rfl) | (have e6 : ((sk : Int) % 8 == 6) = false := by rw [HREM.out, h]; rfl)
              first | (have e7 : ((sk : Int) % 8 == 7) = true := by rw [HREM.out, h]; rfl) | (have e7 : ((sk : Int) % 8 == 7) = false := by rw [HREM.out, h]; rfl)
              clear h
              go_wp2_with (go_at_call 27; refine (HK5.out.commit HB.out hN67).mono ?_; rintro e w6 ⟨rfl, hk6, hx6⟩; have HK6 := hide hk6; have HM6 := hide (mod_js HK5.out.jat HM5.out HS.out (hx6.mono fun _ _ h => disk_js h)); clear hk6 hx6)
              go_meet
              exact ⟨_, _, _, _, _, _, _, _, _, _, _, rfl, rfl, HK6.out.up, HM6.out, HS.out⟩
            · by_cases h5 : r = 5
              · have h := h5
                clear h03 hr8 h4 h5
                first | (have e0 : ((sk : Int) % 8 == 0) = true := by rw [HREM.out, h]; rfl) | (have e0 : ((sk : Int) % 8 == 0) = false := by rw [HREM.out, h]; rfl)
                first | (have e1 : ((sk : Int) % 8 == 1) = true := by rw [HREM.out, h]; rfl) | (have e1 : ((sk : Int) % 8 == 1) = false := by rw [HREM.out, h]; rfl)
                first | (have e2 : ((sk : Int) % 8 == 2) = true := by rw [HREM.out, h]; rfl) | (have e2 : ((sk : Int) % 8 == 2) = false := by rw [HREM.out, h]; rfl)
                first | (have e3 : ((sk : Int) % 8 == 3) = true := by rw [HREM.out, h]; rfl) | (have e3 : ((sk : Int) % 8 == 3) = false := by rw [HREM.out, h]; rfl)
                first | (have e4 : ((sk : Int) % 8 == 4) = true := by rw [HREM.out, h]; rfl) | (have e4 : ((sk : Int) % 8 == 4) = false := by rw [HREM.out, h]; rfl)
                first | (have e5 : ((sk : Int) % 8 == 5) = true := by rw [HREM.out, h]; rfl) | (have e5 : ((sk : Int) % 8 == 5) = false := by rw [HREM.out, h]; rfl)
                first | (have e6 : ((sk : Int) % 8 == 6) = true := by rw [HREM.out, h]; rfl) | (have e6 : ((sk : Int) % 8 == 6) = false := by rw [HREM.out, h]; rfl)
                first | (have e7 : ((sk : Int) % 8 == 7) = true := by rw [HREM.out, h]; rfl) | (have e7 : ((sk : Int) % 8 == 7) = false := by rw [HREM.out, h]; rfl)
                clear h
                by_cases hf : needN rb.length ≤ N / 2
                · have hc := (HK5.out.check HB.out hN67 (by omega) _ rb HB5.out hrl).1 hf
                  have HC := hide hc
                  clear hc hf
                  go_wp2_with (go_at_call 19; refine HC.out.mono ?_; rintro e w6 ⟨rfl, vr6, hk6, _, hx6⟩; have HK6 := hide hk6; have HB6 := hide (HB5.out.kept hx6 HK5.out.jat); clear hk6 hx6)
                  go_meet
                  exact ⟨_, _, _, _, _, _, _, _, _, _, _, rfl, rfl, HK6.out.no ((Ext.refl _ _).alloc _), mod_one (HBW.out _ HK6.out.ext) HB6.out, sep_lit HK6.out.jat⟩
                · have hc := (HK5.out.check HB.out hN67 (by omega) _ rb HB5.out hrl).2 hf
                  have HC := hide hc
                  clear hc hf
                  go_wp2_with (go_at_call 19; refine HC.out.mono ?_; rintro e w6 ⟨rfl, hx6⟩; have HK6 := hide (HK5.out.no hx6); have HM6 := hide (HM5.out.ext hx6 (fun _ _ h => h) (fun _ _ _ h => h)); clear hx6)
                  go_meet
                  exact ⟨_, _, _, _, _, _, _, _, _, _, _, rfl, rfl, HK6.out.up, HM6.out, HS.out⟩
              · have h67 : r = 6 ∨ r = 7 := by omega
                clear h03 hr8 h4 h5
                rcases h67 with h | h
                all_goals
                  first | (have e0 : ((sk : Int) % 8 == 0) = true := by rw [HREM.out, h]; rfl) | (have e0 : ((sk : Int) % 8 == 0) = false := by rw [HREM.out, h]; rfl)
                  first | (have e1 : ((sk : Int) % 8 == 1) = true := by rw [HREM.out, h]; rfl) | (have e1 : ((sk : Int) % 8 == 1) = false := by rw [HREM.out, h]; rfl)
                  first | (have e2 : ((sk : Int) % 8 == 2) = true := by rw [HREM.out, h]; rfl) | (have e2 : ((sk : Int) % 8 == 2) = false := by rw [HREM.out, h]; rfl)
                  first | (have e3 : ((sk : Int) % 8 == 3) = true := by rw [HREM.out, h]; rfl) | (have e3 : ((sk : Int) % 8 == 3) = false := by rw [HREM.out, h]; rfl)
                  first | (have e4 : ((sk : Int) % 8 == 4) = true := by rw [HREM.out, h]; rfl) | (have e4 : ((sk : Int) % 8 == 4) = false := by rw [HREM.out, h]; rfl)
                  first | (have e5 : ((sk : Int) % 8 == 5) = true := by rw [HREM.out, h]; rfl) | (have e5 : ((sk : Int) % 8 == 5) = false := by rw [HREM.out, h]; rfl)
                  first | (have e6 : ((sk : Int) % 8 == 6) = true := by rw [HREM.out, h]; rfl) | (have e6 : ((sk : Int) % 8 == 6) = false := by rw [HREM.out, h]; rfl)
                  first | (have e7 : ((sk : Int) % 8 == 7) = true := by rw [HREM.out, h]; rfl) | (have e7 : ((sk : Int) % 8 == 7) = false := by rw [HREM.out, h]; rfl)
                  clear h
                  obtain ⟨Ap, cp, rfl, _, _⟩ := own_slice HK5.out.jat.disk.pend
                  have k1 := HK5.out.jat.disk.blk.cell 1
                  have g3 := HBL.out.cell 3
                  simp at k1 g3
                  have hPl := HK5.out.har.2.2.2
                  have hlo := fun W => lost_t so P.length W HKO.out (by omega)
                  have HLO := hide hlo
                  clear hlo
                  go_upto_region 36 with fail
                  go_cut [] (fun w' => ∃ M : List Bool, Ext (DiskS d (.slice As N cs)) w5 w' ∧ DiskAt B w' d (.slice As N cs) (.slice none 0 0) (crash S P M) [])
                  case first =>
                    go_region_with (first
                      | (go_at_call 11; refine (HLO.out _).mono ?_; rintro e w6 ⟨v6, rfl, ho6, hE6⟩; have hE6 := (Ext.refl NoS w5).drew.trans' hE6; have hd6 := (HK5.out.no hE6).jat.disk; have hcr := crash_t B w6 d _ _ v6 S P (lostL so P.length) hd6 (bools_own (lostL_length _ _) ho6 hd6) (by rw [HK5.out.hS]; omega) (by omega) (by rw [lostL_length]; omega); have HCR := hide hcr; have HE6 := hide hE6; clear ho6 hE6 hd6 hcr)
                      | (go_at_call 12; refine HCR.out.mono ?_; rintro e w7 ⟨rfl, hd7, hx7⟩; have HD7 := hide hd7; have HX7 := hide (HE6.out.of_no.trans' hx7); clear hd7 hx7))
                    all_goals
                      go_wp2_with fail
                      go_meet
                      exact ⟨_, HX7.out, HD7.out⟩
                  case rest =>
                    obtain ⟨M, hxM, hdM⟩ := hcut
                    have HO := hide (HK5.out.crash HB.out hN67 (by omega) M hxM hdM)
                    have HMM := hide (mod_js HK5.out.jat HM5.out HS.out (hxM.mono fun _ _ h => disk_js h))
                    have hsf := HK5.out.safe1
                    clear hxM hdM HLO k1 g3
                    go_upto_region 41 with (go_at_call 28; refine HO.out.mono ?_; rintro e w8 ⟨q, j8, vr8, li8, en8, hq1, hq2, rfl, _, hk8, hfr8, hE8⟩; have HK8 := hide hk8; have HM8 := hide (HMM.out.ext hE8 (fun _ _ h => h) (fun _ _ _ h => h)); have HS8 := hide (sep_new HMM.out hfr8); clear hk8 hfr8 hE8)
                    have hql : (recs.take q).length = q := by rw [List.length_take]; omega
                    have hr8 := HK8.out.records (by omega)
                    have HR8 := hide hr8
                    have HQL := hide hql
                    clear hr8 hql
                    go_upto_region 42 with (go_at_call 26; refine HR8.out.mono ?_; rintro e w9 ⟨v9, rfl, hr9, hE9⟩; obtain ⟨A9, c9, hv9, _⟩ := hr9.rd; rw [HQL.out] at hv9; subst hv9; have HK9 := hide (HK8.out.no hE9); have HM9 := hide (HM8.out.ext hE9 (fun _ _ h => h) (fun _ _ _ h => h)); clear hr9 hE9)
                    have hcM : recs.length ≤ cM := by
                      obtain ⟨vals, ho, _⟩ := HM9.out
                      obtain ⟨A', c', h1, h2, _⟩ := own_slice ho
                      injection h1 with _ _ h3
                      omega
                    have z1 : ¬ (q : Int) < (safe : Int) := by omega
                    have z2 : ¬ (recs.length : Int) < (q : Int) := by omega
                    have z3 : (q : Int) ≤ (cM : Int) := by omega
                    have z4 : (0 : Int) ≤ (q : Int) := by omega
                    clear HR8 HK8 HM8 HO HMM
                    go_wp2
                    go_meet
                    exact ⟨_, _, _, _, _, _, _, _, _, _, _, rfl, rfl, HK9.out, mod_cut HM9.out hq2 (by omega), sep_cut HS8.out⟩
        case rest =>
          obtain ⟨j9, ar9, ep9, li9, en9, safe9, vp9, vr9, S9, P9, recs9, rfl, rfl, hk9, hm9, hs9⟩ := hcut
          have HK9 := hide hk9
          have HM9 := hide hm9
          have HS9 := hide hs9
          have hr9 := hk9.records (by omega)
          have HR9 := hide hr9
          have hrd : ∀ W v, Rd W v recs9 → Rd W u8 recs9 → Calls Try.prog 29 #[v, u8] W fun e w' => e = .returned (.bool true) ∧ Ext NoS W w' := fun W v h1 h2 =>
            (rows_t recs9 recs9 v u8 W h1 h2 (by have := HK9.out.hrc; omega) (fun r hr => by have := HK9.out.hrl r hr; omega) (fun r hr => by have := HK9.out.hrl r hr; omega)).mono fun e w' ⟨h, hx⟩ => ⟨by rw [h, decide_eq_true rfl], hx⟩
          have HRD := hide hrd
          clear hk9 hm9 hs9 hr9 hrd HBL HB5 HK5 HM5 HS g0
          go_wp2_with (first
            | (go_at_call 26; refine HR9.out.mono ?_; rintro e w8 ⟨v8, rfl, hr8, hE8⟩; have HV8 := hide hr8.rd; have HE8 := hide hE8; clear hr8 hE8)
            | (go_at_call 29; refine (HRD.out _ _ HV8.out (HM9.out.rd.ext HE8.out)).mono ?_; rintro e w9 ⟨rfl, hE9⟩; have HE9 := hide (HE8.out.trans' hE9); clear hE9))
          go_roundw
          case rel => exact ⟨k + 1, hlt, by omega, by go_num, _, _, _, _, _, _, _, _, _, _, _, rfl, rfl, HK9.out.no HE9.out, HM9.out.ext HE9.out (fun _ _ h => h) (fun _ _ _ h => h), HS9.out⟩
          case measure => simp [intOf]; omega
    · have hkn : k = n := by omega
      subst hkn
      go_wp2
      go_ret
      exact ⟨rfl, HE0.out.trans' HK.out.ext⟩
end Go.Proofs.Ytmhhfhmpdpgmbaa
