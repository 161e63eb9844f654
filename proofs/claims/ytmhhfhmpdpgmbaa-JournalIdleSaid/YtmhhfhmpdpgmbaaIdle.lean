/- JournalIdle: the walk. -/
import Derived.Test.YtmhhfhmpdpgmbaaKeepM
namespace Go.Proofs.Ytmhhfhmpdpgmbaa
open Go.RowKit Go.BigFrame

/-- The journal at block j, whatever it has. -/
def IdleR (B : Nat) (w : World) (j d N k : Nat) (vs : Value) (wr : World) : Prop :=
  ∃ (ar ep li en safe : Nat) (vp vr : Value) (S : List Sec) (P : List (Int × Sec)) (recs : List (List UInt8)), Kept B w j d N k wr vs vp vr S P ar ep li en recs safe

section
variable {B : Nat} {w w6 : World} {j d N k : Nat} {vs vp vr vM : Value} {S : List Sec} {P : List (Int × Sec)} {ar ep li en : Nat} {recs m : List (List UInt8)}
/-- What a write of the disk leaves of a list. -/
theorem mod_disk (hj : JAt B w j d vs vp vr S P ar ep li en recs) (h : Mod w B vM m) (hx : Ext (DiskS d vs) w w6) : Mod w6 B vM m := by
  refine h.ext hx (fun g hg => ?_) (fun b _ ⟨cs, hb⟩ => ne_disk hj hb (by decide) (by decide))
  obtain ⟨cur, hc⟩ := mod_blk h hg
  exact ne_disk hj hc.bb (by decide) (by decide)
theorem JAt.room (h : JAt B w j d vs vp vr S P ar ep li en recs) (hS : S.length = N) (hen : en ≤ N / 2) (hN : N ≤ 67) : Calls Try.prog 21 #[.pointer (some ⟨j, 0, none⟩)] w fun e w' => e = .returned (.int .i64 (N / 2 - en : Nat)) ∧ Ext NoS w w' := by
  obtain ⟨As, cs, rfl, _, _⟩ := own_slice h.disk.safe
  have h2 := h.disk.blk.cell 0
  rw [hS] at h2
  exact (room_t j d N cs en As w (h.jb.cell 0) h2 (by omega) (h.jb.cell 4) hen).mono fun e w' ⟨he, m, hm⟩ => ⟨he, by rw [hm]; exact (Ext.refl _ _).drewN _⟩
theorem same_rows (W : World) (v u : Value) (h1 : Rd W v recs) (h2 : Rd W u recs) (hl : recs.length ≤ 1000) (hb : ∀ r ∈ recs, r.length ≤ 60) : Calls Try.prog 29 #[v, u] W fun e w' => e = .returned (.bool true) ∧ Ext NoS W w' :=
  (rows_t recs recs v u W h1 h2 (by omega) (fun r hr => by have := hb r hr; omega) (fun r hr => by have := hb r hr; omega)).mono fun e w' ⟨h, hx⟩ => ⟨by rw [h, decide_eq_true rfl], hx⟩
/-- The journal that was opened again, behind its first commit. -/
theorem kept_again {w4 w10 w11 : World} {li' : Nat} (hB : B = w.heap.size) (hI : ∃ L X T R l0, Inv (N / 2) (crash S P []) [] ar ep li' en recs recs.length L X T R l0) (hS : S.length = N)
    (h0 : ep ≤ k + 1 ∧ li ≤ k + 1 ∧ recs.length ≤ k + 1 ∧ (∀ r ∈ recs, r.length ≤ 60) ∧ B ≤ d ∧ w.heap.size ≤ w4.heap.size) (hl : li' ≤ li + 1) (hj : B ≤ j) (hjat : JAt B w10 j d vs vp vr S P ar ep li' en recs)
    (hj' : JAt B w11 j d vs (.slice none 0 0) vr (crash S P []) [] ar ep li' en recs) (hx0 : Ext NoS w w10) (hx : Ext (DiskS d vs) w10 w11) : Kept B w j d N (k + 1) w11 vs (.slice none 0 0) vr (crash S P []) [] ar ep li' en recs recs.length :=
  { jat := hj', hS := by rw [crash_length]; exact hS, inv := hI, hep := by omega, hli := by omega, hrc := by omega, hrl := h0.2.2.2.1, hj := hj, hd := h0.2.2.2.2.1, ext := hjat.fresh hj h0.2.2.2.2.1 hB hx0 (hx.mono fun _ _ h => disk_js h) }
end

set_option maxRecDepth 100000 in
set_option maxHeartbeats 8000000 in
theorem idle_t (sz : Nat) (A : Option Addr) (n c : Nat) (st : Nat → St) (w : World) (hsz : sz < 256) (hst : StepsAt w A n st) (hn : n ≤ 9223372036854775807) :
    Calls Try.prog 9 #[.int .u8 sz, .slice A n c] w fun e w' => e = .returned (.bool true) ∧ Ext NoS w w' := by
  have HST := hide hst
  clear hst
  obtain ⟨B, hB⟩ : ∃ B, B = w.heap.size := ⟨_, rfl⟩
  have HB := hide hB
  obtain ⟨N, hN⟩ : ∃ N, N = 4 + sz % 64 := ⟨_, rfl⟩
  have hbg := begun_t sz w hsz
  rw [← hB, ← hN] at hbg
  have HBG := hide hbg
  have hN4 : 4 ≤ N := by omega
  have hN67 : N ≤ 67 := by omega
  clear hbg hB hN
  go_enter Try.func9, Try.ntmps9
  go_upto_region 4 with (go_at_call 17; refine HBG.out.mono ?_; rintro e w1 ⟨j, d, vs, vr, rfl, hj, hd, hjat, hE1⟩; have HK := hide (Kept.new HB.out hN4 hj hd hjat hE1); clear hjat hE1)
  clear HBG
  have hos := HK.out.jat.disk.safe
  rw [HK.out.hS] at hos
  obtain ⟨As, cs, rfl, _, _⟩ := own_slice hos
  clear hos
  go_upto_block 0 with fail
  go_cut [] (fun w' => ∃ k, k ≤ 20 ∧ IdleR B w j d N k (.slice As N cs) w')
  case first =>
    go_upto_region 5 with fail
    go_loopw [29] (fun v29 wr => ∃ k : Nat, k ≤ n ∧ k ≤ 20 ∧ v29 = .int .i64 k ∧ IdleR B w j d N k (.slice As N cs) wr) (fun i _ => n - (intOf i).toNat)
    case atStart => exact ⟨0, Nat.zero_le _, by decide, rfl, _, _, _, _, _, _, _, _, _, _, HK.out⟩
    case round =>
      clear HK
      obtain ⟨k, hk, hk20, rfl, ar, ep, li, en, safe, vp, vr, S, P, recs, hkept⟩ := hrel
      have HK := hide hkept
      clear hkept
      by_cases hlt : k < n
      · by_cases h20 : k = 20
        · subst h20
          obtain ⟨b, o, rfl, q0, q1, q2, q3⟩ := HST.out 20 hlt
          have q0 := HK.out.ext.cell q0 (fun h => h)
          have q1 := HK.out.ext.cell q1 (fun h => h)
          have q2 := HK.out.ext.cell q2 (fun h => h)
          have q3 := HK.out.ext.cell q3 (fun h => h)
          go_wp2
          go_meet
          exact ⟨20, by decide, _, _, _, _, _, _, _, _, _, _, HK.out.no ((Ext.refl _ _).alloc _)⟩
        · obtain ⟨b, o, rfl, q0, q1, q2, q3⟩ := HST.out k hlt
          have q0 := HK.out.ext.cell q0 (fun h => h)
          have q1 := HK.out.ext.cell q1 (fun h => h)
          have q2 := HK.out.ext.cell q2 (fun h => h)
          have q3 := HK.out.ext.cell q3 (fun h => h)
          have hkl := (st k).hl
          have hkm := (st k).hm
          have hkk := (st k).hk
          obtain ⟨sk, hsk⟩ : ∃ x, x = (st k).k := ⟨_, rfl⟩
          obtain ⟨sl, hsl⟩ : ∃ x, x = (st k).l := ⟨_, rfl⟩
          obtain ⟨sm, hsm⟩ : ∃ x, x = (st k).m := ⟨_, rfl⟩
          obtain ⟨so, hso⟩ : ∃ x, x = (st k).lo := ⟨_, rfl⟩
          rw [← hsk] at q0 hkk
          rw [← hsl] at q1 hkl
          rw [← hsm] at q2 hkm
          rw [← hso] at q3
          clear hsk hsl hsm hso
          have hk20i : ¬ (k : Int) = 20 := by omega
          have hk19 : k ≤ 19 := by omega
          go_upto_region 8 with fail
          refine wp_world (fun W => Ext NoS wr W ∧ Blk W wr.heap.size 45 #[.int .u8 sk, .int .u8 sl, .int .u8 sm, .int .u64 so]) ⟨(Ext.refl _ _).alloc _, Blk.new _ _ _⟩ ?_
          rintro W ⟨hEW, hbW⟩
          obtain ⟨sb, hsb⟩ : ∃ x, x = wr.heap.size := ⟨_, rfl⟩
          rw [← hsb] at hbW ⊢
          obtain ⟨rb, hrl, -, hrec⟩ := record_b sk sl sm so k W hkl hkm (by omega)
          have HREC := hide hrec
          have g0 := hbW.cell 0
          have g1 := hbW.cell 1
          have g2 := hbW.cell 2
          have g3 := hbW.cell 3
          simp at g0 g1 g2 g3
          have HBW := hide hbW
          have HKW := hide (HK.out.no hEW)
          clear q0 q1 q2 q3 hbW hEW hsb hrec HK
          go_upto_if 39 with fail
          go_cut [] (fun w' => IdleR B w j d N (k + 1) (.slice As N cs) w' ∧ Blk w' sb 45 #[.int .u8 sk, .int .u8 sl, .int .u8 sm, .int .u64 so])
          case first =>
            by_cases h5 : sk % 5 = 0
            · have e5 : ((sk : Int) % 5 == 0) = true := by rw [beq_iff_eq]; omega
              clear h5
              by_cases hf : needN rb.length ≤ N / 2
              · go_wp2_with (first
                  | (go_at_call 18; refine HREC.out.mono ?_; rintro e w5 ⟨A5, c5, rfl, hb5, hE5⟩; have HK5 := hide (HKW.out.no hE5); have hc := (HK5.out.check HB.out hN67 (by omega) _ rb hb5 hrl).1 hf; have HC := hide hc; have HB5 := hide (HBW.out.ext hE5 (fun h => h)); clear hb5 hE5 hc)
                  | (go_at_call 19; refine HC.out.mono ?_; rintro e w6 ⟨rfl, vr6, hk6, _, hx6⟩; have HK6 := hide hk6; have HB6 := hide (HB5.out.ext hx6 (ne_js HK5.out.jat HB5.out.bb (by decide) (by decide) (by decide) (by decide) (by decide))); clear hk6 hx6))
                go_meet
                exact ⟨⟨_, _, _, _, _, _, _, _, _, _, HK6.out⟩, HB6.out⟩
              · go_wp2_with (first
                  | (go_at_call 18; refine HREC.out.mono ?_; rintro e w5 ⟨A5, c5, rfl, hb5, hE5⟩; have HK5 := hide (HKW.out.no hE5); have hc := (HK5.out.check HB.out hN67 (by omega) _ rb hb5 hrl).2 hf; have HC := hide hc; have HB5 := hide (HBW.out.ext hE5 (fun h => h)); clear hb5 hE5 hc)
                  | (go_at_call 19; refine HC.out.mono ?_; rintro e w6 ⟨rfl, hx6⟩; have HK6 := hide (HK5.out.no hx6); have HB6 := hide (HB5.out.ext hx6 (fun h => h)); clear hx6))
                go_meet
                exact ⟨⟨_, _, _, _, _, _, _, _, _, _, HK6.out.up⟩, HB6.out⟩
            · have e5 : ((sk : Int) % 5 == 0) = false := by rw [beq_eq_false_iff_ne]; omega
              clear h5
              by_cases hf : needN rb.length ≤ N / 2 - en
              · go_wp2_with (first
                  | (go_at_call 18; refine HREC.out.mono ?_; rintro e w5 ⟨A5, c5, rfl, hb5, hE5⟩; have HK5 := hide (HKW.out.no hE5); have hc := (HK5.out.app HB.out hN67 (by omega) _ rb hb5 hrl).1 hf; have HC := hide hc; have HB5 := hide (HBW.out.ext hE5 (fun h => h)); clear hb5 hE5 hc)
                  | (go_at_call 20; refine HC.out.mono ?_; rintro e w6 ⟨rfl, vp6, vr6, hk6, _, hx6⟩; have HK6 := hide hk6; have HB6 := hide (HB5.out.ext hx6 (ne_js HK5.out.jat HB5.out.bb (by decide) (by decide) (by decide) (by decide) (by decide))); clear hk6 hx6))
                go_meet
                exact ⟨⟨_, _, _, _, _, _, _, _, _, _, HK6.out⟩, HB6.out⟩
              · go_wp2_with (first
                  | (go_at_call 18; refine HREC.out.mono ?_; rintro e w5 ⟨A5, c5, rfl, hb5, hE5⟩; have HK5 := hide (HKW.out.no hE5); have hc := (HK5.out.app HB.out hN67 (by omega) _ rb hb5 hrl).2 hf; have HC := hide hc; have HB5 := hide (HBW.out.ext hE5 (fun h => h)); clear hb5 hE5 hc)
                  | (go_at_call 20; refine HC.out.mono ?_; rintro e w6 ⟨rfl, hx6⟩; have HK6 := hide (HK5.out.no hx6); have HB6 := hide (HB5.out.ext hx6 (fun h => h)); clear hx6))
                go_meet
                exact ⟨⟨_, _, _, _, _, _, _, _, _, _, HK6.out.up⟩, HB6.out⟩
          case rest =>
            clear HREC HKW HBW g0 g1 g2 g3
            obtain ⟨⟨ar, ep, li, en, safe, vp, vr, S, P, recs, hk6⟩, hb6⟩ := hcut
            have HK6 := hide hk6
            have g0 := hb6.cell 0
            simp at g0
            clear hk6 hb6
            by_cases h3 : sk % 3 = 0
            · have e3 : ((sk : Int) % 3 == 0) = true := by rw [beq_iff_eq]; omega
              clear h3
              go_wp2_with (go_at_call 27; refine (HK6.out.commit HB.out hN67).mono ?_; rintro e w7 ⟨rfl, hk7, _⟩; have HK7 := hide hk7; clear hk7)
              go_roundw
              case rel => exact ⟨k + 1, hlt, by omega, by go_num, _, _, _, _, _, _, _, _, _, _, HK7.out⟩
              case measure => simp [intOf]; omega
            · have e3 : ((sk : Int) % 3 == 0) = false := by rw [beq_eq_false_iff_ne]; omega
              clear h3
              go_wp2_with fail
              go_roundw
              case rel => exact ⟨k + 1, hlt, by omega, by go_num, _, _, _, _, _, _, _, _, _, _, HK6.out⟩
              case measure => simp [intOf]; omega
      · have hkn : k = n := by omega
        subst hkn
        go_wp2
        go_meet
        exact ⟨_, hk20, _, _, _, _, _, _, _, _, _, _, HK.out⟩
  case rest =>
    clear HK
    obtain ⟨k, hk20, ar, ep, li, en, safe, vp, vr, S, P, recs, hkept⟩ := hcut
    have HK := hide hkept
    clear hkept
    obtain ⟨w2, h2⟩ : ∃ x, x = wc := ⟨_, rfl⟩
    subst h2
    obtain ⟨Ap, cp, rfl, _, _⟩ := own_slice HK.out.jat.disk.pend
    have k1 := HK.out.jat.disk.blk.cell 1
    simp at k1
    have hBw : B ≤ w2.heap.size := by rw [HB.out]; exact HK.out.ext.size
    have hrc : ∀ W2, Ext NoS w2 W2 → Calls Try.prog 26 #[.pointer (some ⟨j, 0, none⟩)] W2 (RecordsPost W2 recs) := fun W2 h2 => (HK.out.no h2).records (by omega)
    have HRC := hide hrc
    clear hrc
    go_upto_region 14 with fail
    go_cut [10, 11] (fun v10 v11 w' => v11 = .int .i64 P.length ∧ Ext NoS w2 w' ∧ Mod w' B v10 recs)
    case first =>
      have keepS : ∀ w', Ext NoS w2 w' → Ext NoS w2 w' ∧ w'.cell? ⟨d, 1, none⟩ = some (.slice Ap P.length cp) := fun w' h => ⟨h, h.cell k1 (fun h => h)⟩
      go_region_held3 (fun w' => Ext NoS w2 w' ∧ w'.cell? ⟨d, 1, none⟩ = some (.slice Ap P.length cp))
        (first | exact keepS _ (Ext.refl _ _).drew | exact keepS _ (by assumption))
        ((go_at_call 26; refine (HRC.out _ (Ext.refl NoS w2).drew).mono ?_; rintro e' w3 ⟨v3, rfl, hr3, hE3⟩; have hx3 : Ext NoS w2 w3 := (Ext.refl _ w2).drew.trans' hE3))
      all_goals
        go_wp2_with fail
        go_meet
        exact ⟨rfl, hx3, (hr3.low hBw).mono (fun _ _ _ => trivial)⟩
    case rest =>
      obtain ⟨rfl, hE3, hm3⟩ := hcut
      obtain ⟨w3, h3⟩ : ∃ x, x = wc := ⟨_, rfl⟩
      subst h3
      have HK3 := hide (HK.out.no hE3)
      have HM3 := hide hm3
      clear HK HRC hE3 hm3 k1 hBw
      -- region 15: a copy of the sectors
      have k0 := ((Ext.refl NoS w3).alloc (.cells #[] 53)).cell (HK3.out.jat.disk.blk.cell 0) (fun h => h)
      go_wp2_with (at_builtin; refine Hid.out ?_)
      refine hide ?_
      have hos := HK3.out.jat.disk.safe
      rw [HK3.out.hS] at hos
      have hlen := hos.1
      refine wpList_append_any rfl _ _ 22 rfl w3.heap.size 53 _ 32 32 Try.underlying22 infoSec rfl (by decide) _ 0 [] rfl (own_empty w3 53 32) As N cs (S.flatMap sv) rfl hlen (fun hn => by obtain ⟨b, o, h1, h2⟩ := own_src hos hn; exact ⟨b, o, h1, range_ext h2 ((Ext.refl NoS w3).alloc (.cells #[] 53)) (fun h => h)⟩) (secs_one S) (by unfold maxLen; omega) (by omega) (by simp) ?_
      intro v12 w4 ho4 hg4 _
      have hE4 := ext_copy hg4
      simp only [Nat.zero_add, List.nil_append] at ho4
      obtain ⟨A12, c12, rfl, _, _⟩ := own_slice ho4
      have HO4 := hide ho4
      have HK4 := hide (HK3.out.no hE4)
      have HM4 := hide (HM3.out.ext hE4 (fun _ _ h => h) (fun _ _ _ h => h))
      clear hos hlen ho4 hg4 hE4 HK3 HM3 k0
      have HAG := hide (HK4.out.again HB.out hN67 (by omega))
      go_upto_region 17 with (go_at_call 28; refine HAG.out.mono ?_; rintro e w5 ⟨j5, vr5, li5, rfl, hj5, hja5, hfr5, hE5, hl1, hl2, hinv5⟩; have HJ5 := hide hja5; have HE5 := hide hE5; have HI5 := hide hinv5; clear hja5 hfr5 hE5 hinv5)
      have HS0 := hide HK4.out.hS
      have hhar := HK4.out.har
      have hrc := HK4.out.hrc
      have hE54 := HE5.out
      have hrec5 : Calls Try.prog 26 #[.pointer (some ⟨j5, 0, none⟩)] w5 (RecordsPost w5 recs) := records_t B w5 j5 d _ _ vr5 S P ar ep li5 en recs HJ5.out (by omega) (fun r hr => by have := HK4.out.hrl r hr; omega)
      have HR5 := hide hrec5
      have HRW := hide (fun (W : World) (v : Value) (h1 : Rd W v recs) (h2 : Ext NoS w5 W) => same_rows W v u10 h1 (HM4.out.rd.ext (hE54.trans' h2)) (by omega) HK4.out.hrl)
      have HO5 := hide (fun (W : World) (h2 : Ext NoS w5 W) => JAt.room (HJ5.out.no h2) HK4.out.hS hhar.2.1 hN67)
      have HOJ := hide (fun (W : World) (h2 : Ext NoS w5 W) => (HK4.out.no (hE54.trans' h2)).room hN67)
      have k1 := HJ5.out.disk.blk.cell 1
      simp at k1
      clear hrec5 hE54 HAG
      go_upto_region 19 with (first
        | (go_at_call 26; refine HR5.out.mono ?_; rintro e w6 ⟨v6, rfl, hr6, hE6⟩; have HV6 := hide hr6.rd; have HE6 := hide hE6; clear hr6 hE6)
        | (go_at_call 29; refine (HRW.out _ _ HV6.out HE6.out).mono ?_; rintro e w7 ⟨rfl, hE7⟩; have HE7 := hide (HE6.out.trans' hE7); clear hE7)
        | (go_at_call 21; ((with_reducible refine (HO5.out _ HE7.out).mono ?_)); rintro e w8 ⟨rfl, hE8⟩; have HE8 := hide (HE7.out.trans' hE8); clear hE8)
        | (go_at_call 21; ((with_reducible refine (HOJ.out _ HE8.out).mono ?_)); rintro e w9 ⟨rfl, hE9⟩; have HE9 := hide (HE8.out.trans' hE9); clear hE9))
      clear HR5 HRW HO5 HOJ k1
      obtain ⟨gs, rfl⟩ : ∃ g, As = some ⟨g, 0, none⟩ := by
        rcases HJ5.out.disk.safe.2 with ⟨_, h0⟩ | ⟨g, cap, cur, hv, _⟩
        · have := HS0.out; omega
        · exact ⟨g, by injection hv⟩
      obtain ⟨gA, rfl⟩ : ∃ g, A12 = some ⟨g, 0, none⟩ := by
        rcases HO4.out.2 with ⟨_, h0⟩ | ⟨g, cap, cur, hv, _⟩
        · omega
        · exact ⟨g, by injection hv⟩
      have HJ9 := hide (HJ5.out.no HE9.out)
      have HO9 := hide (own_ext HO4.out (HE5.out.trans' HE9.out) (fun _ _ h => h))
      have HM9 := hide (HM4.out.ext (HE5.out.trans' HE9.out) (fun _ _ h => h) (fun _ _ _ h => h))
      have HX9 := hide (HK4.out.ext.trans' (HE5.out.trans' HE9.out))
      have HK0 := hide (And.intro HK4.out.hep (And.intro HK4.out.hli (And.intro HK4.out.hrc (And.intro HK4.out.hrl (And.intro HK4.out.hd HK4.out.ext.size)))))
      clear HO4 HJ5 HM4 HK4 HE5 HE6 HE7 HE8 HE9 HV6
      go_upto_block 2 with fail
      go_cut [] (fun w' => Ext NoS w9 w')
      case first =>
        have k0 := HJ9.out.disk.blk.cell 0
        simp at k0
        go_upto_region 20 with fail
        go_loopw [105] (fun v w' => ∃ i : Nat, v = .int .i64 i ∧ i ≤ N ∧ Ext NoS w9 w') (fun v _ => N - (intOf v).toNat)
        case atStart => exact ⟨0, rfl, Nat.zero_le _, Ext.refl _ _⟩
        case round =>
          obtain ⟨i, rfl, hi, hE⟩ := hrel
          have k0 := hE.cell k0 (fun h => h)
          have HE := hide hE
          clear hE
          by_cases hlt2 : i < N
          · have hlt3 : (i : Int) < (N : Int) := by omega
            have hi3 : i < S.length := by rw [HS0.out]; exact hlt2
            obtain ⟨s, hs⟩ : ∃ s, s = S[i] := ⟨_, rfl⟩
            have hl1 := secRange (JAt.no HJ9.out HE.out).disk.safe (HJ9.out).disk.s32 rfl hi3 hs.symm
            have hl2 := secRange (k := i) (S := S) (by rw [HS0.out]; exact own_ext HO9.out HE.out (fun _ _ h => h)) (HJ9.out).disk.s32 rfl hi3 hs.symm
            have h32 := (HJ9.out).disk.s32 _ (List.getElem_mem hi3)
            rw [← hs] at h32
            have heq := fun w => equalIn_same w s h32
            have hsz : (Try.prog.info? 53).map (·.size) = some (sv s).length := by rw [sizeSec, sv_length, h32]
            have HL1 := hide hl1
            have HL2 := hide hl2
            have HSZ := hide hsz
            clear hs h32 hl1 hl2 hsz
            go_upto_region 22 with fail
            refine wp_region_quiet_lit (by kernel_rfl) (by kernel_rfl) ?_
            repeat (go_big_quiet_step (fail))
            refine wpQuiet_load_mid (o := ⟨some 114, _, _, _, _, _⟩) rfl 53 _ rfl gs (i * 32) rfl (sv s) _ HL1.out Try.underlying53 rfl HSZ.out ?_
            simp only [Act.put, List.setIfInBounds_toArray, List.set_cons_zero, List.set_cons_succ]
            repeat (go_big_quiet_step (fail))
            refine wpQuiet_load_mid (o := ⟨some 118, _, _, _, _, _⟩) rfl 53 _ rfl gA (i * 32) rfl (sv s) _ HL2.out Try.underlying53 rfl HSZ.out ?_
            simp only [Act.put, List.setIfInBounds_toArray, List.set_cons_zero, List.set_cons_succ]
            repeat (go_big_quiet_step (fail))
            refine wpQuiet_nil ?_
            intro _ hw'
            obtain ⟨nq, hw''⟩ := hw'
            subst hw''
            go_wp2
            go_roundw
            case rel => exact ⟨i + 1, by go_num, hlt2, HE.out.drewN _⟩
            case measure => simp [intOf]; omega
          · have hin : i = N := by omega
            subst hin
            go_wp2
            go_meet
            exact HE.out
      case rest =>
        have HEC := hide hcut
        clear hcut HO9
        obtain ⟨w10, h10⟩ : ∃ x, x = wc := ⟨_, rfl⟩
        subst h10
        have HJ10 := hide (HJ9.out.no HEC.out)
        have HM10 := hide (HM9.out.ext HEC.out (fun _ _ h => h) (fun _ _ _ h => h))
        have HX10 := hide (HX9.out.trans' HEC.out)
        have hbj : B ≤ j5 := by have := HK0.out.2.2.2.2.2; rw [HB.out]; omega
        have hcm := commit_t B w10 j5 d _ _ vr5 S P ar ep li5 en recs HJ10.out (by rw [HS0.out]; omega) (by omega)
        have HCM := hide hcm
        clear HJ9 HM9 HX9 HEC hcm
        have hk := fun (w11 : World) (hj11 : JAt B w11 j5 d (.slice (some ⟨gs, 0, none⟩) N cs) (.slice none 0 0) vr5 (crash S P []) [] ar ep li5 en recs) (hx11 : Ext (DiskS d (.slice (some ⟨gs, 0, none⟩) N cs)) w10 w11) => kept_again HB.out HI5.out HS0.out HK0.out hl2 hbj HJ10.out hj11 HX10.out hx11
        have HKK := hide hk
        clear hk
        go_upto_region 27 with (go_at_call 27; refine HCM.out.mono ?_; rintro e w11 ⟨rfl, hj11, hx11⟩; have HK11 := hide (HKK.out w11 hj11 hx11); have HM11 := hide (mod_disk HJ10.out HM10.out hx11); have k1 := hj11.disk.blk.cell 1; simp at k1; clear hj11 hx11)
        obtain ⟨S2, hS2⟩ : ∃ x, x = crash S P [] := ⟨_, rfl⟩
        rw [← hS2] at HK11
        clear hS2 k1 HCM HKK HJ10 HM10 HX10 HI5
        -- region 27: a copy once more
        have k0 := ((Ext.refl NoS w11).alloc (.cells #[] 53)).cell (HK11.out.jat.disk.blk.cell 0) (fun h => h)
        go_wp2_with (at_builtin; refine Hid.out ?_)
        refine hide ?_
        have hos := HK11.out.jat.disk.safe
        rw [HK11.out.hS] at hos
        have hlen := hos.1
        refine wpList_append_any rfl _ _ 22 rfl w11.heap.size 53 _ 32 32 Try.underlying22 infoSec rfl (by decide) _ 0 [] rfl (own_empty w11 53 32) (some ⟨gs, 0, none⟩) N cs (S2.flatMap sv) rfl hlen (fun hn => by obtain ⟨b, o, h1, h2⟩ := own_src hos hn; exact ⟨b, o, h1, range_ext h2 ((Ext.refl NoS w11).alloc (.cells #[] 53)) (fun h => h)⟩) (secs_one S2) (by unfold maxLen; omega) (by omega) (by simp) ?_
        intro v16 w12 ho12 hg12 _
        have hE12 := ext_copy hg12
        simp only [Nat.zero_add, List.nil_append] at ho12
        obtain ⟨A16, c16, rfl, _, _⟩ := own_slice ho12
        have HO12 := hide ho12
        have HK12 := hide (HK11.out.no hE12)
        have HM12 := hide (HM11.out.ext hE12 (fun _ _ h => h) (fun _ _ _ h => h))
        have hdl := fun (x : Nat) (hx : DiskS d (.slice (some ⟨gs, 0, none⟩) N cs) x) => js_lt HK11.out.jat (disk_js hx)
        have HDL := hide hdl
        clear hos hlen ho12 hg12 hE12 HK11 HM11 k0 hdl
        go_upto_region 30 with (go_at_call 27; refine (HK12.out.commit HB.out hN67).mono ?_; rintro e w13 ⟨rfl, hk13, hx13⟩; rw [crash_nil] at hk13; have HK13 := hide hk13; have HM13 := hide (mod_disk HK12.out.jat HM12.out hx13); have HO13 := hide (own_ext HO12.out hx13 (fun g hg hs => by have := own_base HO12.out hg; have := HDL.out g hs; omega)); clear hk13 hx13)
        clear HK12 HM12 HO12 HDL
        obtain ⟨gB, rfl⟩ : ∃ g, A16 = some ⟨g, 0, none⟩ := by
          rcases HO13.out.2 with ⟨_, h0⟩ | ⟨g, cap, cur, hv, _⟩
          · omega
          · exact ⟨g, by injection hv⟩
        have HS2 := hide HK13.out.hS
        go_upto_block 4 with fail
        go_cut [] (fun w' => Ext NoS w13 w')
        case first =>
          have k0 := HK13.out.jat.disk.blk.cell 0
          simp at k0
          go_upto_region 31 with fail
          go_loopw [143] (fun v w' => ∃ i : Nat, v = .int .i64 i ∧ i ≤ N ∧ Ext NoS w13 w') (fun v _ => N - (intOf v).toNat)
          case atStart => exact ⟨0, rfl, Nat.zero_le _, Ext.refl _ _⟩
          case round =>
            obtain ⟨i, rfl, hi, hE⟩ := hrel
            have k0 := hE.cell k0 (fun h => h)
            have HE := hide hE
            clear hE
            by_cases hlt2 : i < N
            · have hlt3 : (i : Int) < (N : Int) := by omega
              have hi3 : i < S2.length := by rw [HS2.out]; exact hlt2
              obtain ⟨s, hs⟩ : ∃ s, s = S2[i] := ⟨_, rfl⟩
              have hl1 := secRange (JAt.no HK13.out.jat HE.out).disk.safe (HK13.out.jat).disk.s32 rfl hi3 hs.symm
              have hl2 := secRange (k := i) (S := S2) (by rw [HS2.out]; exact own_ext HO13.out HE.out (fun _ _ h => h)) (HK13.out.jat).disk.s32 rfl hi3 hs.symm
              have h32 := (HK13.out.jat).disk.s32 _ (List.getElem_mem hi3)
              rw [← hs] at h32
              have heq := fun w => equalIn_same w s h32
              have hsz : (Try.prog.info? 53).map (·.size) = some (sv s).length := by rw [sizeSec, sv_length, h32]
              have HL1 := hide hl1
              have HL2 := hide hl2
              have HSZ := hide hsz
              clear hs h32 hl1 hl2 hsz
              go_upto_region 33 with fail
              refine wp_region_quiet_lit (by kernel_rfl) (by kernel_rfl) ?_
              repeat (go_big_quiet_step (fail))
              refine wpQuiet_load_mid (o := ⟨some 152, _, _, _, _, _⟩) rfl 53 _ rfl gs (i * 32) rfl (sv s) _ HL1.out Try.underlying53 rfl HSZ.out ?_
              simp only [Act.put, List.setIfInBounds_toArray, List.set_cons_zero, List.set_cons_succ]
              repeat (go_big_quiet_step (fail))
              refine wpQuiet_load_mid (o := ⟨some 156, _, _, _, _, _⟩) rfl 53 _ rfl gB (i * 32) rfl (sv s) _ HL2.out Try.underlying53 rfl HSZ.out ?_
              simp only [Act.put, List.setIfInBounds_toArray, List.set_cons_zero, List.set_cons_succ]
              repeat (go_big_quiet_step (fail))
              refine wpQuiet_nil ?_
              intro _ hw'
              obtain ⟨nq, hw''⟩ := hw'
              subst hw''
              go_wp2
              go_roundw
              case rel => exact ⟨i + 1, by go_num, hlt2, HE.out.drewN _⟩
              case measure => simp [intOf]; omega
            · have hin : i = N := by omega
              subst hin
              go_wp2
              go_meet
              exact HE.out
        case rest =>
          have HEC := hide hcut
          clear hcut HO13
          obtain ⟨w14, h14⟩ : ∃ x, x = wc := ⟨_, rfl⟩
          subst h14
          have HK14 := hide (HK13.out.no HEC.out)
          have HM14 := hide (HM13.out.ext HEC.out (fun _ _ h => h) (fun _ _ _ h => h))
          have HAG := hide (HK14.out.again HB.out hN67 (by omega))
          clear HK13 HM13 HEC
          go_upto_region 37 with (go_at_call 28; refine HAG.out.mono ?_; rintro e w15 ⟨j15, vr15, li15, rfl, _, hj15, _, hE15, _, _, _⟩; have HJ15 := hide hj15; have HE15 := hide hE15; clear hj15 hE15)
          have hE15 := HE15.out
          have hrec15 : Calls Try.prog 26 #[.pointer (some ⟨j15, 0, none⟩)] w15 (RecordsPost w15 recs) := records_t B w15 j15 d _ _ vr15 S2 [] ar ep li15 en recs HJ15.out (by omega) (fun r hr => by have := HK14.out.hrl r hr; omega)
          have HR15 := hide hrec15
          have HRW := hide (fun (W : World) (v : Value) (h1 : Rd W v recs) (h2 : Ext NoS w15 W) => same_rows W v u10 h1 (HM14.out.rd.ext (hE15.trans' h2)) (by omega) HK14.out.hrl)
          have k1 := HJ15.out.disk.blk.cell 1
          simp at k1
          clear hrec15 hE15 HAG
          go_wp2_with (first
            | (go_at_call 26; refine HR15.out.mono ?_; rintro e w16 ⟨v16, rfl, hr16, hE16⟩; have HV16 := hide hr16.rd; have HE16 := hide hE16; have k1 := hE16.cell k1 (fun h => h); clear hr16 hE16)
            | (go_at_call 29; refine (HRW.out _ _ HV16.out HE16.out).mono ?_; rintro e w17 ⟨rfl, hE17⟩; have k1 := hE17.cell k1 (fun h => h); have HE17 := hide (HE16.out.trans' hE17); clear hE17)
            | (go_at_call 10; refine (awake_t _).mono ?_; rintro e w18 ⟨rfl, hE18⟩))
          go_ret
          exact ⟨rfl, HK14.out.ext.trans' ((HE15.out.trans' HE17.out).trans' hE18)⟩
end Go.Proofs.Ytmhhfhmpdpgmbaa
