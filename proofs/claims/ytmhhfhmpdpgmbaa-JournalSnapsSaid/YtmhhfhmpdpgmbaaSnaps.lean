/- JournalSnaps: the walk. -/
import Derived.Test.YtmhhfhmpdpgmbaaCopied
import Derived.Test.YtmhhfhmpdpgmbaaSnapO
namespace Go.Proofs.Ytmhhfhmpdpgmbaa
open Go.RowKit Go.BigFrame

/-- The journal at block j, whatever it has, and its records kept beside. -/
def SnapR (B : Nat) (w : World) (j d N k : Nat) (vs v12 v13 : Value) (wr : World) : Prop :=
  ∃ (ar ep li en safe : Nat) (vp vr : Value) (S : List Sec) (P : List (Int × Sec)) (recs : List (List UInt8)), v13 = .int .i64 safe ∧
    Kept B w j d N k wr vs vp vr S P ar ep li en recs safe ∧ Mod wr B v12 recs ∧ Sep vr v12
theorem own_lt2 {w : World} {B : Nat} {e : TypeId} {size n : Nat} {v : Value} {xs : List Value} (h : w.ownsRow B e size v n xs) {x : Nat} (hx : v.ownBlock = some x) : x < w.heap.size := by
  obtain ⟨cur, hc, _⟩ := own_blk h hx
  exact hc.lt
/-- A disk whose blocks lie apart from what was written. -/
theorem disk_far {T : Nat → Prop} {m : Nat} {w w' : World} {g : Nat} {vs vp : Value} {S : List Sec} {P : List (Int × Sec)} (h : DiskAt m w g vs vp S P) (hg : m ≤ g) (he : Ext T w w') (hT : ∀ x, T x → x < m) : DiskAt m w' g vs vp S P :=
  h.ext he (fun e => by have := hT _ e; omega) (fun x hx e => by have := own_base h.safe hx; have := hT _ e; omega) (fun x hx e => by have := own_base h.pend hx; have := hT _ e; omega)
theorem disk_near {T : Nat → Prop} {B m : Nat} {w w' : World} {g : Nat} {vs vp : Value} {S : List Sec} {P : List (Int × Sec)} (h : DiskAt B w g vs vp S P) (hm : w.heap.size ≤ m) (he : Ext T w w') (hT : ∀ x, T x → m ≤ x) : DiskAt B w' g vs vp S P :=
  h.ext he (fun e => by have := hT _ e; have := h.blk.lt; omega) (fun x hx e => by have := own_lt2 h.safe hx; have := hT _ e; omega) (fun x hx e => by have := own_lt2 h.pend hx; have := hT _ e; omega)

/-- What holds while the writes of the checkpoint are looked for. -/
structure SnapL (B m2 m4 : Nat) (w0 : World) (d g g5 : Nat) (vs vs3 vs5 vp' : Value) (S : List Sec) (Q : List (Int × Sec)) (SA C : List Sec) (vM vb : Value) (recs : List (List UInt8)) (rb : List UInt8) (wr : World) : Prop where
  bef : DiskAt m2 wr g vs3 vp' S Q
  dsk : DiskAt B wr d vs (.slice none 0 0) SA []
  pln : DiskAt m4 wr g5 vs5 (.slice none 0 0) C []
  mod : Mod wr B vM recs
  byt : Bytes (fun x => ByteBlk wr x) wr vb rb
  ext : Ext NoS w0 wr
  hd : d < m2
  hvs : ∀ x, vs.ownBlock = some x → x < m2
  hg : m2 ≤ g
  hg4 : g < m4
  hg5 : m4 ≤ g5
  hm : w0.heap.size ≤ m2
section
variable {B m2 m4 : Nat} {w0 : World} {d g g5 : Nat} {vs vs3 vs5 vp' v'' : Value} {S : List Sec} {Q Q' : List (Int × Sec)} {SA C : List Sec} {vM vb : Value} {recs : List (List UInt8)} {rb : List UInt8} {wr w' : World}
theorem SnapL.no (h : SnapL B m2 m4 w0 d g g5 vs vs3 vs5 vp' S Q SA C vM vb recs rb wr) (he : Ext NoS wr w') : SnapL B m2 m4 w0 d g g5 vs vs3 vs5 vp' S Q SA C vM vb recs rb w' :=
  { h with bef := h.bef.no he, dsk := h.dsk.no he, pln := h.pln.no he, mod := h.mod.ext he (fun _ _ h => h) (fun _ _ _ h => h), byt := (h.byt.ext he (fun _ _ _ h => h)).mono (fun _ _ h => h.ext he (fun h => h)), ext := h.ext.trans' he }
theorem SnapL.step (h : SnapL B m2 m4 w0 d g g5 vs vs3 vs5 vp' S Q SA C vM vb recs rb wr) (hx : Ext (fun x => x = g ∨ vp'.ownBlock = some x) wr w') (hd' : DiskAt m2 w' g vs3 v'' S Q') : SnapL B m2 m4 w0 d g g5 vs vs3 vs5 v'' S Q' SA C vM vb recs rb w' := by
  have hT : ∀ x, (x = g ∨ vp'.ownBlock = some x) → m2 ≤ x := fun x e => by
    have := h.hg
    rcases e with e | e
    · omega
    · exact own_base h.bef.pend e
  have hne : ∀ (x : Nat) t cs, BB wr x t cs → t ≠ 25 → t ≠ 55 → ¬ (x = g ∨ vp'.ownBlock = some x) := fun x t cs hb h1 h2 h' => by
    rcases h' with h' | h'
    · exact (h' ▸ hb).ne_ h.bef.blk h1 rfl
    · exact own_neB h.bef.pend hb (fun e => h2 e.symm) h'
  refine { h with bef := hd', dsk := ?_, pln := ?_, mod := ?_, byt := ?_, ext := h.ext.trans hx (fun i hi e => by have := hT i e; have := h.hm; omega) }
  · exact h.dsk.ext hx (fun e => by have := hT _ e; have := h.hd; omega) (fun x hx' e => by have := hT _ e; have := h.hvs x hx'; omega) (fun x hx' _ => by simp [Value.ownBlock] at hx')
  · refine h.pln.ext hx (fun e => ?_) (fun x hx' => ?_) (fun x hx' _ => by simp [Value.ownBlock] at hx')
    · rcases e with e | e
      · have := h.hg4; have := h.hg5; omega
      · exact own_ne h.bef.pend h.pln.blk (by decide) e
    · obtain ⟨cur, hc, _⟩ := own_blk h.pln.safe hx'
      exact hne _ _ _ hc.bb (by decide) (by decide)
  · refine h.mod.ext hx (fun x hx' => ?_) (fun x _ ⟨cs, hb⟩ => hne _ _ _ hb (by decide) (by decide))
    obtain ⟨cur, hc⟩ := mod_blk h.mod hx'
    exact hne _ _ _ hc.bb (by decide) (by decide)
  · exact (h.byt.ext hx (fun x ⟨cs, hb⟩ _ => hne _ _ _ hb (by decide) (by decide))).mono (fun x _ hb => hb.ext hx (by obtain ⟨cs, hb'⟩ := hb; exact hne _ _ _ hb' (by decide) (by decide)))
end

set_option maxRecDepth 100000 in
set_option maxHeartbeats 16000000 in
theorem snaps_t (sz : Nat) (A : Option Addr) (n c : Nat) (st : Nat → St) (s0 : St) (mask : Nat) (w : World) (hsz : sz < 256) (hst : StepsAt w A n st) (hn : n ≤ 9223372036854775807) (hmask : mask < 18446744073709551616) :
    Calls Try.prog 8 #[.int .u8 sz, .slice A n c, .agg #[.int .u8 s0.k, .int .u8 s0.l, .int .u8 s0.m, .int .u64 s0.lo], .int .u64 mask] w fun e w' => e = .returned (.bool true) ∧ Ext NoS w w' := by
  have HST := hide hst
  have HMASK := hide hmask
  clear hst hmask
  obtain ⟨N, hN⟩ : ∃ N, N = 4 + sz % 64 := ⟨_, rfl⟩
  have hN4 : 4 ≤ N := by omega
  have hN67 : N ≤ 67 := by omega
  have HN := hide hN
  clear hN
  have hzl := s0.hl
  have hzm := s0.hm
  obtain ⟨zk, hzk⟩ : ∃ x, x = s0.k := ⟨_, rfl⟩
  obtain ⟨zl, hzl2⟩ : ∃ x, x = s0.l := ⟨_, rfl⟩
  obtain ⟨zm, hzm2⟩ : ∃ x, x = s0.m := ⟨_, rfl⟩
  obtain ⟨zo, hzo⟩ : ∃ x, x = s0.lo := ⟨_, rfl⟩
  rw [← hzk, ← hzl2, ← hzm2, ← hzo]
  rw [← hzl2] at hzl
  rw [← hzm2] at hzm
  clear hzk hzl2 hzm2 hzo
  go_enter Try.func8, Try.ntmps8
  go_upto_region 1 with fail
  obtain ⟨zb, hzb⟩ : ∃ x, x = w.heap.size := ⟨_, rfl⟩
  refine wp_world (fun W => Ext NoS w W ∧ Blk W w.heap.size 45 #[.int .u8 zk, .int .u8 zl, .int .u8 zm, .int .u64 zo]) ⟨(Ext.refl _ _).alloc _, Blk.new _ _ _⟩ ?_
  rintro w0 ⟨hE0, hZ0⟩
  rw [← hzb] at hZ0 ⊢
  clear hzb
  have HE0 := hide hE0
  obtain ⟨B, hB⟩ : ∃ B, B = w0.heap.size := ⟨_, rfl⟩
  have HZL := hide (show zb < B by rw [hB]; exact hZ0.lt)
  have HZ0 := hide hZ0
  have HB := hide hB
  have hbg := begun_t sz w0 hsz
  rw [← hB, ← HN.out] at hbg
  have HBG := hide hbg
  clear hbg hB hE0 hZ0
  go_upto_region 4 with (go_at_call 17; refine HBG.out.mono ?_; rintro e w1 ⟨j, d, vs, vr, rfl, hj, hd, hjat, hE1⟩; have HK := hide (Kept.new HB.out hN4 hj hd hjat hE1); clear hjat hE1)
  clear HBG
  have hos := HK.out.jat.disk.safe
  rw [HK.out.hS] at hos
  obtain ⟨As, cs, rfl, _, _⟩ := own_slice hos
  clear hos
  have hrc := HK.out.records (by decide)
  have HRC := hide hrc
  clear hrc
  go_upto_region 5 with (go_at_call 26; refine HRC.out.mono ?_; rintro e w2 ⟨v2, rfl, hr2, hE2⟩; have hm2 : Mod w2 B v2 [[]] := (hr2.low (by have := HK.out.ext.size; have := HB.out; omega)).mono (fun _ _ _ => trivial); have hs2 : Sep vr v2 := sep_fresh HK.out.jat (fun g hg => by obtain ⟨vals, ho, _⟩ := hr2; exact own_base ho hg); have HM2 := hide hm2; have HS2 := hide hs2; have HK2 := hide (HK.out.no hE2); clear hr2 hm2 hs2 hE2)
  clear HK HRC
  go_upto_block 0 with fail
  go_cut [12, 13] (fun v12 v13 w' => ∃ k, k ≤ 12 ∧ SnapR B w0 j d N k (.slice As N cs) v12 v13 w')
  case first =>
    go_upto_region 6 with fail
    go_loopw [12, 13, 40] (fun v12 v13 v40 wr => ∃ k : Nat, k ≤ n ∧ k ≤ 12 ∧ v40 = .int .i64 k ∧ SnapR B w0 j d N k (.slice As N cs) v12 v13 wr) (fun _ _ i _ => n - (intOf i).toNat)
    case atStart => exact ⟨0, Nat.zero_le _, by decide, rfl, _, _, _, _, _, _, _, _, _, _, rfl, HK2.out, HM2.out, HS2.out⟩
    case round =>
      clear HK2 HM2 HS2
      obtain ⟨k, hk, hk12, rfl, ar, ep, li, en, safe, vp, vr, S, P, recs, rfl, hkept, hmod, hsep⟩ := hrel
      obtain ⟨AM, cM, rfl⟩ : ∃ A c, u12 = .slice A recs.length c := by
        obtain ⟨vals, ho, _⟩ := hmod
        obtain ⟨A, c, h, _⟩ := own_slice ho
        exact ⟨A, c, h⟩
      have HK := hide hkept
      have HM := hide hmod
      have HS := hide hsep
      clear hkept hmod hsep
      by_cases hlt : k < n
      · by_cases h12 : k = 12
        · subst h12
          obtain ⟨b, o, rfl, q0, q1, q2, q3⟩ := HST.out 12 hlt
          have q0 := HE0.out.cell q0 (fun h => h)
          have q1 := HE0.out.cell q1 (fun h => h)
          have q2 := HE0.out.cell q2 (fun h => h)
          have q3 := HE0.out.cell q3 (fun h => h)
          have q0 := HK.out.ext.cell q0 (fun h => h)
          have q1 := HK.out.ext.cell q1 (fun h => h)
          have q2 := HK.out.ext.cell q2 (fun h => h)
          have q3 := HK.out.ext.cell q3 (fun h => h)
          go_wp2
          go_meet
          exact ⟨12, by decide, _, _, _, _, _, _, _, _, _, _, rfl, HK.out.no ((Ext.refl _ _).alloc _), HM.out.ext ((Ext.refl NoS _).alloc _) (fun _ _ h => h) (fun _ _ _ h => h), HS.out⟩
        · obtain ⟨b, o, rfl, q0, q1, q2, q3⟩ := HST.out k hlt
          have q0 := HE0.out.cell q0 (fun h => h)
          have q1 := HE0.out.cell q1 (fun h => h)
          have q2 := HE0.out.cell q2 (fun h => h)
          have q3 := HE0.out.cell q3 (fun h => h)
          have q0 := HK.out.ext.cell q0 (fun h => h)
          have q1 := HK.out.ext.cell q1 (fun h => h)
          have q2 := HK.out.ext.cell q2 (fun h => h)
          have q3 := HK.out.ext.cell q3 (fun h => h)
          have hkl := (st k).hl
          have hkm := (st k).hm
          have hkk := (st k).hk
          obtain ⟨sk, hsk⟩ : ∃ x, x = (st k).k := ⟨_, rfl⟩
          obtain ⟨sl, hsl⟩ : ∃ x, x = (st k).l := ⟨_, rfl⟩
          obtain ⟨sm, hsm⟩ : ∃ x, x = (st k).m := ⟨_, rfl⟩
          obtain ⟨so, hso⟩ : ∃ x, x = (st k).lo := ⟨_, rfl⟩
          rw [← hsk] at q0 hkk
          rw [← hsl] at q1 hkl
          rw [← hsm] at q2 hkm
          rw [← hso] at q3
          clear hsk hsl hsm hso
          have hk12i : ¬ (k : Int) = 12 := by omega
          have hk11 : k ≤ 11 := by omega
          go_upto_region 9 with fail
          refine wp_world (fun W => Ext NoS wr W ∧ Blk W wr.heap.size 45 #[.int .u8 sk, .int .u8 sl, .int .u8 sm, .int .u64 so]) ⟨(Ext.refl _ _).alloc _, Blk.new _ _ _⟩ ?_
          rintro W ⟨hEW, hbW⟩
          obtain ⟨sb, hsb⟩ : ∃ x, x = wr.heap.size := ⟨_, rfl⟩
          rw [← hsb] at hbW ⊢
          obtain ⟨rb, hrl, -, hrec⟩ := record_b sk sl sm so k W hkl hkm (by omega)
          have HREC := hide hrec
          have g0 := hbW.cell 0
          have g1 := hbW.cell 1
          have g2 := hbW.cell 2
          have g3 := hbW.cell 3
          simp at g0 g1 g2 g3
          have HBW := hide hbW
          have HEW := hide hEW
          clear q0 q1 q2 q3 hbW hEW hsb hrec
          go_upto_region 10 with (go_at_call 18; refine HREC.out.mono ?_; rintro e w5 ⟨A5, c5, rfl, hb5, hE5⟩; have HB5 := hide hb5; have HE5 := hide (HEW.out.trans' hE5); have HBL := hide (HBW.out.ext hE5 (fun h => h)); clear hb5 hE5)
          have HK5 := hide (HK.out.no HE5.out)
          have HM5 := hide (HM.out.ext HE5.out (fun _ _ h => h) (fun _ _ _ h => h))
          clear g0 g1 g2 g3 HBW HEW HK HM HE5 HREC
          have hBw : ∀ W, Ext NoS w0 W → B ≤ W.heap.size := fun W h => by rw [HB.out]; exact h.size
          have HBWW := hide hBw
          clear hBw
          have hrb := HK5.out.hrc
          by_cases hf : needN rb.length ≤ N / 2 - en
          · have hc := (HK5.out.app HB.out hN67 (by omega) _ rb HB5.out hrl).1 hf
            have HC := hide hc
            clear hc hf
            go_wp2_with (first
              | (go_at_call 20; refine HC.out.mono ?_; rintro e w6 ⟨rfl, vp6, vr6, hk6, hfr6, hx6⟩; have HK6 := hide hk6; have HS6 := hide (sep_fr HM5.out HS.out hfr6); have HM6 := hide (mod_js HK5.out.jat HM5.out HS.out hx6); have HB6 := hide (HB5.out.kept hx6 HK5.out.jat); have HBL6 := hide (HBL.out.ext hx6 (ne_js HK5.out.jat HBL.out.bb (by decide) (by decide) (by decide) (by decide) (by decide))); clear hk6 hfr6 hx6)
              | (at_builtin; refine Hid.out ?_))
            refine hide ?_
            obtain ⟨vals, hvo, hvl, hvb⟩ := HM6.out
            refine wpList_append_any rfl _ _ 67 rfl B 46 _ 1 24 Try.underlying67 infoBs rfl (by decide) _ recs.length vals rfl (own_ext hvo ((Ext.refl NoS w6).alloc _) (fun _ _ h => h)) (some ⟨w6.heap.size, 0, none⟩) 1 1 [.slice A5 rb.length c5] rfl rfl (fun _ => ⟨_, _, rfl, (Blk.new w6 _ _).all⟩) (by simp [Value.oneCell']) (by unfold maxLen; omega) (by omega) (by have := HBWW.out _ HK6.out.ext; simp; omega) ?_
            intro v7 w7 ho7 hg7 hor7
            obtain ⟨A7, c7, rfl, _, _⟩ := own_slice ho7
            have hx7 := ext_push hg7
            have HM7 := hide (mod_push vals hvl hvb HM6.out hx7 ho7 HB6.out)
            have HS7 := hide (sep_push HK6.out.jat HS6.out hor7)
            have HK7 := hide (HK6.out.mod HB.out HM6.out HS6.out hx7)
            have g0 := (HBL6.out.ext hx7 (fun e => by obtain ⟨cur, hc⟩ := mod_blk HM6.out e; exact HBL6.out.ne_ hc (by decide) rfl)).cell 0
            simp at g0
            clear hvo hvl hvb ho7 hg7 hor7 hx7 HK6 HM6 HS6 HB6
            by_cases h3 : sk % 3 = 0
            · have e3 : ((sk : Int) % 3 == 0) = true := by rw [beq_iff_eq]; omega
              clear h3
              go_wp2_with (go_at_call 27; refine (HK7.out.commit HB.out hN67).mono ?_; rintro e w8 ⟨rfl, hk8, hx8⟩; have HK8 := hide hk8; have HM8 := hide (mod_js HK7.out.jat HM7.out HS7.out (hx8.mono fun _ _ h => disk_js h)); clear hk8 hx8)
              go_roundw
              case rel => exact ⟨k + 1, hlt, by omega, by go_num, _, _, _, _, _, _, _, _, _, _, by rw [List.length_append]; rfl, HK8.out, HM8.out, HS7.out⟩
              case measure => simp [intOf]; omega
            · have e3 : ((sk : Int) % 3 == 0) = false := by rw [beq_eq_false_iff_ne]; omega
              clear h3
              go_wp2_with fail
              go_roundw
              case rel => exact ⟨k + 1, hlt, by omega, by go_num, _, _, _, _, _, _, _, _, _, _, rfl, HK7.out, HM7.out, HS7.out⟩
              case measure => simp [intOf]; omega
          · have hc := (HK5.out.app HB.out hN67 (by omega) _ rb HB5.out hrl).2 hf
            have HC := hide hc
            clear hc hf
            by_cases h3 : sk % 3 = 0
            · have e3 : ((sk : Int) % 3 == 0) = true := by rw [beq_iff_eq]; omega
              clear h3
              go_wp2_with (first
                | (go_at_call 20; refine HC.out.mono ?_; rintro e w6 ⟨rfl, hx6⟩; have HK6 := hide (HK5.out.no hx6); have HM6 := hide (HM5.out.ext hx6 (fun _ _ h => h) (fun _ _ _ h => h)); have g0 := (HBL.out.ext hx6 (fun h => h)).cell 0; simp at g0; clear hx6)
                | (go_at_call 27; refine (HK6.out.commit HB.out hN67).mono ?_; rintro e w8 ⟨rfl, hk8, hx8⟩; have HK8 := hide hk8; have HM8 := hide (mod_js HK6.out.jat HM6.out HS.out (hx8.mono fun _ _ h => disk_js h)); clear hk8 hx8))
              go_roundw
              case rel => exact ⟨k + 1, hlt, by omega, by go_num, _, _, _, _, _, _, _, _, _, _, rfl, HK8.out.up, HM8.out, HS.out⟩
              case measure => simp [intOf]; omega
            · have e3 : ((sk : Int) % 3 == 0) = false := by rw [beq_eq_false_iff_ne]; omega
              clear h3
              go_wp2_with (go_at_call 20; refine HC.out.mono ?_; rintro e w6 ⟨rfl, hx6⟩; have HK6 := hide (HK5.out.no hx6); have HM6 := hide (HM5.out.ext hx6 (fun _ _ h => h) (fun _ _ _ h => h)); have g0 := (HBL.out.ext hx6 (fun h => h)).cell 0; simp at g0; clear hx6)
              go_roundw
              case rel => exact ⟨k + 1, hlt, by omega, by go_num, _, _, _, _, _, _, _, _, _, _, rfl, HK6.out.up, HM6.out, HS.out⟩
              case measure => simp [intOf]; omega
      · have hkn : k = n := by omega
        subst hkn
        go_wp2
        go_meet
        exact ⟨_, hk12, _, _, _, _, _, _, _, _, _, _, rfl, HK.out, HM.out, HS.out⟩
  case rest =>
    clear HK2 HM2 HS2
    obtain ⟨k, hk12, ar, ep, li, en, safe, vp, vr, S, P, recs, rfl, hkept, hmod, hsep⟩ := hcut
    obtain ⟨w2, h2⟩ : ∃ x, x = wc := ⟨_, rfl⟩
    subst h2
    obtain ⟨AM, cM, rfl⟩ : ∃ A c, u12 = .slice A recs.length c := by
      obtain ⟨vals, ho, _⟩ := hmod
      obtain ⟨A, c, h, _⟩ := own_slice ho
      exact ⟨A, c, h⟩
    have HK := hide hkept
    have HM := hide hmod
    have HS := hide hsep
    clear hkept hmod hsep
    have HZ2 := hide (HZ0.out.ext HK.out.ext (fun h => h))
    have z0 := HZ2.out.cell 0
    have z1 := HZ2.out.cell 1
    have z2 := HZ2.out.cell 2
    have z3 := HZ2.out.cell 3
    simp at z0 z1 z2 z3
    have hSN := HK.out.hS
    have hhar := HK.out.har
    have hsf := HK.out.safe1
    have hrl0 := HK.out.hrc
    have HRL0 := hide HK.out.hrl
    have HNEAR := hide (show d < w2.heap.size ∧ (∀ x, (Value.slice As N cs).ownBlock = some x → x < w2.heap.size) from ⟨HK.out.jat.disk.blk.lt, fun x hx => own_lt2 HK.out.jat.disk.safe hx⟩)
    have HWM := hide HK.out.ext.size
    obtain ⟨rb, hrb⟩ : ∃ rb, rb = recB zl zm 99 := ⟨_, rfl⟩
    have hrl : rb.length ≤ 60 := by rw [hrb, recB_length]; have := Nat.mod_lt zl (show 0 < 61 by decide); omega
    have hrec : ∀ W, Calls Try.prog 18 #[.agg #[.int .u8 zk, .int .u8 zl, .int .u8 zm, .int .u64 zo], .int .i64 99] W fun e w' => ∃ A c, e = .returned (.slice A rb.length c) ∧ Bytes (fun x => ByteBlk w' x) w' (.slice A rb.length c) rb ∧ Ext NoS W w' := fun W => by
      obtain ⟨r, _, h1, h2⟩ := record_b zk zl zm zo 99 W hzl hzm (by decide)
      rw [h1, ← hrb] at h2
      exact h2
    have hcop : ∀ W, Ext NoS w2 W → Calls Try.prog 30 #[.pointer (some ⟨d, 0, none⟩)] W fun e w' => ∃ g vs' vp', e = .returned (.pointer (some ⟨g, 0, none⟩)) ∧ w2.heap.size ≤ g ∧ DiskAt w2.heap.size w' g vs' vp' S P ∧ Ext NoS W w' := fun W hW =>
      (copied_t B W d _ vp S P (HK.out.no hW).jat.disk (by omega) (by omega)).mono fun e w' ⟨g, vs', vp', h1, h2, h3, h4⟩ => ⟨g, vs', vp', h1, Nat.le_trans hW.size h2, ⟨h3.blk, own_low h3.safe hW.size, own_low h3.pend hW.size, h3.s32, h3.p32⟩, h4⟩
    have HREC := hide hrec
    have HCOP := hide hcop
    clear hrec hcop hrb
    go_upto_region 17 with fail
    go_cut [17, 18] (fun v17 v18 w' => Ext NoS w2 w' ∧ (∃ g vs' vp', v17 = .pointer (some ⟨g, 0, none⟩) ∧ w2.heap.size ≤ g ∧ DiskAt w2.heap.size w' g vs' vp' S P) ∧ (∃ A c, v18 = .slice A rb.length c ∧ Bytes (fun x => ByteBlk w' x) w' (.slice A rb.length c) rb))
    case first =>
      have keepS : ∀ w', Ext NoS w2 w' → Ext NoS w2 w' ∧ w'.cell? ⟨zb, 0, none⟩ = some (.int .u8 zk) ∧ w'.cell? ⟨zb, 1, none⟩ = some (.int .u8 zl) ∧ w'.cell? ⟨zb, 2, none⟩ = some (.int .u8 zm) ∧ w'.cell? ⟨zb, 3, none⟩ = some (.int .u64 zo) := fun w' h => ⟨h, h.cell z0 (fun h => h), h.cell z1 (fun h => h), h.cell z2 (fun h => h), h.cell z3 (fun h => h)⟩
      go_region_held3 (fun w' => Ext NoS w2 w' ∧ w'.cell? ⟨zb, 0, none⟩ = some (.int .u8 zk) ∧ w'.cell? ⟨zb, 1, none⟩ = some (.int .u8 zl) ∧ w'.cell? ⟨zb, 2, none⟩ = some (.int .u8 zm) ∧ w'.cell? ⟨zb, 3, none⟩ = some (.int .u64 zo))
        (first | exact keepS _ (Ext.refl _ _).drew | exact keepS _ (by assumption))
        (first
          | (go_at_call 30; ((with_reducible refine (HCOP.out _ (‹Ext NoS w2 _ ∧ _›).1).mono ?_)); rintro e' w3 ⟨g, vs3, vp3, rfl, hg3, hd3, hE3⟩; have hx := (‹Ext NoS w2 _ ∧ _›).1.trans' hE3; (try (have HB4 := hide ((HB3.out.ext hE3 (fun _ _ _ h => h)).mono (fun x _ h => h.ext hE3 (fun h => h))))); have HD3 := hide hd3; clear hE3 hd3)
          | (go_at_call 18; refine (HREC.out _).mono ?_; rintro e' w4 ⟨A4, c4, rfl, hb4, hE4⟩; have hx := (‹Ext NoS w2 _ ∧ _›).1.trans' hE4; (try (have HD4 := hide (HD3.out.no hE4))); have HB3 := hide hb4; clear hE4 hb4))
      all_goals
        go_wp2_with fail
        go_meet
        exact ⟨by assumption, ⟨_, _, _, rfl, hg3, by first | exact HD4.out | exact HD3.out⟩, _, _, rfl, by first | exact HB4.out | exact HB3.out⟩
    case rest =>
      obtain ⟨hE3, ⟨g, vs3, vp3, rfl, hg3, hd3⟩, A18, c18, rfl, hb3⟩ := hcut
      obtain ⟨w3, h3⟩ : ∃ x, x = wc := ⟨_, rfl⟩
      subst h3
      have HK3 := hide (HK.out.no hE3)
      have HM3 := hide (HM.out.ext hE3 (fun _ _ h => h) (fun _ _ _ h => h))
      have hjl := fun (x : Nat) (hx : JS j d (.slice As N cs) vp vr x) => js_lt HK.out.jat hx
      have HJL := hide hjl
      have HD3 := hide hd3
      have HB3 := hide hb3
      have HSZ := hide hE3.size
      clear HK HM HCOP HREC z0 z1 z2 z3 hE3 hd3 hb3 hjl HZ2 HZ0
      by_cases hf : needN rb.length ≤ N / 2
      · obtain ⟨L0, X0, T0, R0, l0, hI⟩ := HK3.out.inv
        have HI := hide hI
        have HEP := hide HK3.out.hep
        have HLI := hide HK3.out.hli
        clear hI
        have hc := (HK3.out.check HB.out hN67 (by omega) _ rb HB3.out hrl).1 hf
        have HC := hide hc
        clear hc
        go_upto_region 21 with (go_at_call 19; refine HC.out.mono ?_; rintro e w4 ⟨rfl, vr4, hk4, _, hx4⟩; have HK4 := hide hk4; have HM4 := hide (mod_js HK3.out.jat HM3.out HS.out hx4); have HB4 := hide (HB3.out.kept hx4 HK3.out.jat); have HD4 := hide (disk_far HD3.out hg3 hx4 HJL.out); have HS4 := hide hx4.size; clear hk4 hx4)
        obtain ⟨SA, hSA⟩ : ∃ x, x = crash S (P ++ recW ((1 - ar) * (N / 2) : Nat) (ep + 1) li 0 rb) [] := ⟨_, rfl⟩
        rw [← hSA] at HK4
        have HSA := hide hSA
        have hAl : SA.length = N := HK4.out.hS
        clear hSA HC HK3 HM3 HD3 HB3 HJL
        have HW := hide HK4.out.ext
        have HDD := hide HK4.out.jat.disk
        clear HK4
        have hcp := copied_t w2.heap.size w4 g vs3 vp3 S P HD4.out (by omega) (by omega)
        have HCP := hide hcp
        clear hcp
        go_upto_region 22 with (go_at_call 30; refine HCP.out.mono ?_; rintro e w5 ⟨g5, vs5, vp5, rfl, hg5, hd5, hE5⟩; have HD5 := hide hd5; have HE5 := hide hE5; clear hd5 hE5)
        have hsy := sync_t w4.heap.size w5 g5 vs5 vp5 S P HD5.out (by omega) (by omega)
        have HSY := hide hsy
        clear hsy HCP
        go_upto_region 23 with (go_at_call 13; refine HSY.out.mono ?_; rintro e w6 ⟨rfl, hd6, hx6⟩; have HD6 := hide hd6; have HE6 := hide (HE5.out.trans hx6 (fun i hi e => by rcases e with e | e; omega; have := own_base HD5.out.safe e; omega)); clear hd6 hx6)
        obtain ⟨C, hC⟩ : ∃ x, x = crash S P [] := ⟨_, rfl⟩
        rw [← hC] at HD6
        have hCl : C.length = N := by rw [hC, crash_length]; exact hSN
        have HCC := hide hC
        have hos := HD6.out.safe
        rw [hCl] at hos
        obtain ⟨A5, c5, rfl, _, _⟩ := own_slice hos
        have hdl : d < w2.heap.size ∧ (∀ x, (Value.slice As N cs).ownBlock = some x → x < w2.heap.size) := HNEAR.out
        have hL6 : SnapL B w2.heap.size w4.heap.size w0 d g g5 (.slice As N cs) vs3 (.slice A5 N c5) vp3 S P SA C (.slice AM recs.length cM) (.slice A18 rb.length c18) recs rb w6 :=
          { bef := HD4.out.no HE6.out, dsk := HDD.out.no HE6.out, pln := HD6.out, mod := HM4.out.ext HE6.out (fun _ _ h => h) (fun _ _ _ h => h), byt := (HB4.out.ext HE6.out (fun _ _ _ h => h)).mono (fun x _ h => h.ext HE6.out (fun h => h)), ext := HW.out.trans' HE6.out,
            hd := hdl.1, hvs := hdl.2, hg := hg3, hg4 := HD4.out.blk.lt, hg5 := hg5, hm := HWM.out }
        have HL6 := hide hL6
        clear hL6 hdl hC hos HD4 HDD HD6 HM4 HB4 HW HSY HD5 HE5 HE6
        have kd := HL6.out.dsk.blk.cell 0
        have k5 := HL6.out.pln.blk.cell 0
        simp at kd k5
        go_quiet (fail)
        have HL7 := hide (HL6.out.no ((Ext.refl _ _).drewN nq))
        obtain ⟨w7, h7⟩ : ∃ x, x = w6.drewN nq := ⟨_, rfl⟩
        rw [← h7] at HL7 ⊢
        have kd : w7.cell? ⟨d, 0, none⟩ = some (.slice As N cs) := by rw [h7]; exact kd
        clear h7 k5 HL6
        obtain ⟨gs, rfl⟩ : ∃ x, As = some ⟨x, 0, none⟩ := by
          rcases HL7.out.dsk.safe.2 with ⟨_, h0⟩ | ⟨x, cap, cur, hv, _⟩
          · omega
          · exact ⟨x, by injection hv⟩
        obtain ⟨g5s, rfl⟩ : ∃ x, A5 = some ⟨x, 0, none⟩ := by
          rcases HL7.out.pln.safe.2 with ⟨_, h0⟩ | ⟨x, cap, cur, hv, _⟩
          · omega
          · exact ⟨x, by injection hv⟩
        go_upto_block 2 with fail
        clear kd
        go_cut [] (fun w' => ∃ vp', SnapL B w2.heap.size w4.heap.size w0 d g g5 (.slice (some ⟨gs, 0, none⟩) N cs) vs3 (.slice (some ⟨g5s, 0, none⟩) N c5) vp' S (P ++ diffs SA C N) SA C (.slice AM recs.length cM) (.slice A18 rb.length c18) recs rb w')
        case first =>
          go_upto_region 26 with fail
          go_loopw [102] (fun v w' => ∃ (i : Nat) (vp' : Value), v = .int .i64 i ∧ i ≤ N ∧ SnapL B w2.heap.size w4.heap.size w0 d g g5 (.slice (some ⟨gs, 0, none⟩) N cs) vs3 (.slice (some ⟨g5s, 0, none⟩) N c5) vp' S (P ++ diffs SA C i) SA C (.slice AM recs.length cM) (.slice A18 rb.length c18) recs rb w') (fun v _ => N - (intOf v).toNat)
          case atStart => exact ⟨0, _, rfl, Nat.zero_le _, by rw [diffs_zero, List.append_nil]; exact HL7.out⟩
          case round =>
            clear HL7
            obtain ⟨i, vp', rfl, hi, hL⟩ := hrel
            have HL := hide hL
            clear hL
            by_cases hlt2 : i < N
            · have hlt3 : (i : Int) < (N : Int) := by omega
              have kd := HL.out.dsk.blk.cell 0
              have k5 := HL.out.pln.blk.cell 0
              simp at kd k5
              have hia : i < SA.length := by omega
              have hic : i < C.length := by omega
              obtain ⟨a, haD⟩ : ∃ a, a = SA[i] := ⟨_, rfl⟩
              obtain ⟨cc, hcD⟩ : ∃ a, a = C[i] := ⟨_, rfl⟩
              have hl1 := secRange HL.out.dsk.safe HL.out.dsk.s32 rfl hia haD.symm
              have hl2 := secRange HL.out.pln.safe HL.out.pln.s32 rfl hic hcD.symm
              have ha32 : a.length = 32 := by rw [haD]; exact HL.out.dsk.s32 _ (List.getElem_mem hia)
              have hc32 : cc.length = 32 := by rw [hcD]; exact HL.out.pln.s32 _ (List.getElem_mem hic)
              have HSZ2 := hide (show (Try.prog.info? 53).map (·.size) = some (sv a).length by rw [sizeSec, sv_length, ha32])
              have HSZ3 := hide (show (Try.prog.info? 53).map (·.size) = some (sv cc).length by rw [sizeSec, sv_length, hc32])
              have HL1 := hide hl1
              have HL2 := hide hl2
              clear hl1 hl2
              by_cases hac : a = cc
              · have heq := fun w => equalIn_same w a ha32
                have hsd : diffs SA C (i + 1) = diffs SA C i := diffs_same SA C i (by rw [getD_of hia, getD_of hic, ← haD, ← hcD]; exact hac)
                have HSD := hide hsd
                rw [← hac] at HL2
                clear haD hcD hac hsd HSZ3 ha32 hc32
                go_upto_region 28 with fail
                refine wp_region_quiet_lit (by kernel_rfl) (by kernel_rfl) ?_
                repeat (go_big_quiet_step (fail))
                refine wpQuiet_load_mid (o := ⟨some 111, _, _, _, _, _⟩) rfl 53 _ rfl gs (i * 32) rfl (sv a) _ HL1.out Try.underlying53 rfl HSZ2.out ?_
                simp only [Act.put, List.setIfInBounds_toArray, List.set_cons_zero, List.set_cons_succ]
                repeat (go_big_quiet_step (fail))
                refine wpQuiet_load_mid (o := ⟨some 118, _, _, _, _, _⟩) rfl 53 _ rfl g5s (i * 32) rfl (sv a) _ HL2.out Try.underlying53 rfl HSZ2.out ?_
                simp only [Act.put, List.setIfInBounds_toArray, List.set_cons_zero, List.set_cons_succ]
                repeat (go_big_quiet_step (fail))
                refine wpQuiet_nil ?_
                intro _ hw'
                obtain ⟨nq, hw''⟩ := hw'
                subst hw''
                have HL8 := hide (HL.out.no ((Ext.refl _ _).drewN nq))
                rw [← HSD.out] at HL8
                clear HL
                go_wp2
                go_roundw
                case rel => exact ⟨i + 1, _, by go_num, hlt2, HL8.out⟩
                case measure => simp [intOf]; omega
              · have heq : ∀ w, (Op.equalIn 10000 53 (.agg (sv a).toArray) (.agg (sv cc).toArray)).run Try.prog w = .ok false w := fun w => by rw [equalIn_secs w a cc ha32 hc32, beq_eq_false_iff_ne.2 hac]
                have HAD := hide haD
                have HCD := hide hcD
                have HAC := hide hac
                clear haD hcD hac
                go_upto_region 28 with fail
                refine wp_region_quiet_lit (by kernel_rfl) (by kernel_rfl) ?_
                repeat (go_big_quiet_step (fail))
                refine wpQuiet_load_mid (o := ⟨some 111, _, _, _, _, _⟩) rfl 53 _ rfl gs (i * 32) rfl (sv a) _ HL1.out Try.underlying53 rfl HSZ2.out ?_
                simp only [Act.put, List.setIfInBounds_toArray, List.set_cons_zero, List.set_cons_succ]
                repeat (go_big_quiet_step (fail))
                refine wpQuiet_load_mid (o := ⟨some 118, _, _, _, _, _⟩) rfl 53 _ rfl g5s (i * 32) rfl (sv cc) _ HL2.out Try.underlying53 rfl HSZ3.out ?_
                simp only [Act.put, List.setIfInBounds_toArray, List.set_cons_zero, List.set_cons_succ]
                repeat (go_big_quiet_step (fail))
                refine wpQuiet_nil ?_
                intro _ hw'
                obtain ⟨nq, hw''⟩ := hw'
                subst hw''
                have HL8 := hide (HL.out.no ((Ext.refl _ _).drewN nq))
                obtain ⟨w8, h8⟩ : ∃ x, x = wr.drewN nq := ⟨_, rfl⟩
                rw [← h8] at HL8
                have hr8 := HL1.out _ ⟨nq, rfl⟩
                rw [← h8] at hr8
                have kd8 : w8.cell? ⟨d, 0, none⟩ = some (.slice (some ⟨gs, 0, none⟩) N cs) := by rw [h8]; exact kd
                have haD := HAD.out
                have hcD := HCD.out
                have hac := HAC.out
                go_upto_region 29 with fail
                rw [← h8]
                clear h8 HL HL1 HL2 kd k5 HSZ3 heq
                -- region 29: one write more
                obtain ⟨Ap', cp', rfl, _, _⟩ := own_slice HL8.out.bef.pend
                obtain ⟨Q, hQ⟩ : ∃ Q, Q = P ++ diffs SA C i := ⟨_, rfl⟩
                rw [← hQ] at HL8
                have hqb : Q.length ≤ 200 := by rw [hQ, List.length_append]; have := diffs_length SA C i; omega
                obtain ⟨x, hx⟩ : ∃ x, x = ((i : Int), a) := ⟨_, rfl⟩
                have hx32 : x.2.length = 32 := by rw [hx]; exact ha32
                have hsc : diffs SA C (i + 1) = diffs SA C i ++ [((i : Int), a)] := by
                  rw [diffs_other SA C i (by rw [getD_of (by omega), getD_of (by omega), ← haD, ← hcD]; exact hac), getD_of (by omega), ← haD]
                obtain ⟨ql, hql⟩ : ∃ ql, ql = Q.length := ⟨_, rfl⟩
                rw [← hql] at hqb
                have HPN := hide (show w8.ownsRow w2.heap.size 55 33 (.slice Ap' ql cp') ql (Q.flatMap wv) by
                  have := HL8.out.bef.pend
                  rw [← hql] at this
                  exact this)
                rw [← hql] at HL8
                have HX := hide hx
                have HQP := hide hQ
                have HSC := hide hsc
                have HQL := hide hql.symm
                have HWE := hide (show w2.heap.size ≤ w8.heap.size by have := HL8.out.hg; have := HL8.out.bef.blk.lt; omega)
                have hsv : (sv a).length = 32 := by rw [sv_length, ha32]
                have hwl : (wv x).length = 33 := by rw [wv_length, hx32]
                have hfold : ∀ c0 : Array Value, c0.size = 33 → (wv x).zipIdx.foldl (fun cs (y : Value × Nat) => cs.setIfInBounds y.2 y.1) c0 = (wv x).toArray := fun c0 h0 => build_row _ _ (by rw [h0, hwl])
                have kb := HL8.out.bef.blk.cell 1
                simp at kb
                have k1d : w8.drew.cell? ⟨g, 1, none⟩ = some (.slice Ap' ql cp') := kb
                have k1a : (w8.alloc (.cells (wv x).toArray 55)).drew.cell? ⟨g, 1, none⟩ = some (.slice Ap' ql cp') := (((Ext.refl NoS w8).alloc _).drew).cell kb (fun h => h)
                have hsof : ∀ W, Ext (fun y => y = g ∨ (Value.slice Ap' ql cp').ownBlock = some y) w8 W → W.cell? ⟨d, 0, none⟩ = some (.slice (some ⟨gs, 0, none⟩) N cs) ∧ W.rangeAt gs (i * 32) (sv a) := fun W hW => by
                  have hne : ∀ y, y < w2.heap.size → ¬ (y = g ∨ (Value.slice Ap' ql cp').ownBlock = some y) := fun y hy e => by
                    have := HL8.out.hg
                    rcases e with e | e
                    · omega
                    · have := own_base HPN.out e; omega
                  exact ⟨hW.cell kd8 (hne _ HL8.out.hd), range_ext hr8 hW (hne _ (HL8.out.hvs _ rfl))⟩
                have HSOF := hide hsof
                clear hx hQ hsc hql kb hsof haD hcD hac
                refine wp_region_held_drew (S := fun w' => w'.cell? ⟨d, 0, none⟩ = some (.slice (some ⟨gs, 0, none⟩) N cs) ∧ w'.rangeAt gs (i * 32) (sv a)) (by kernel_rfl) (HSOF.out _ (Ext.refl _ _).drew) (fun hH => ?_)
                refine wpAnyH_take (i := 0) (oi := ⟨some 120, _, _, _, _, _⟩) (v := .pointer (some ⟨g, 0, none⟩)) rfl (by kernel_rfl) (by kernel_rfl) (by kernel_rfl) (fun _ _ _ h => h) (Or.inl ⟨by rfl, fun w' hSw => ?_⟩) hH ?_
                · obtain ⟨s1, s2⟩ := hSw
                  go_simp
                try simp only [Act.put, List.setIfInBounds_toArray, List.set_cons_zero, List.set_cons_succ]
                refine wpAnyH_take (i := 1) (oi := ⟨some 121, _, _, _, _, _⟩) (v := .pointer (some ⟨g, 0, none⟩)) rfl (by kernel_rfl) (by kernel_rfl) (by kernel_rfl) (fun _ _ _ h => h) (Or.inl ⟨by rfl, fun w' hSw => ?_⟩) hH ?_
                · obtain ⟨s1, s2⟩ := hSw
                  go_simp
                try simp only [Act.put, List.setIfInBounds_toArray, List.set_cons_zero, List.set_cons_succ]
                refine wpAnyH_take (i := 2) (oi := ⟨some 122, _, _, _, _, _⟩) (v := .pointer (some ⟨g, 0, none⟩)) rfl (by kernel_rfl) (by kernel_rfl) (by kernel_rfl) (fun _ _ _ h => h) (Or.inl ⟨by rfl, fun w' hSw => ?_⟩) hH ?_
                · obtain ⟨s1, s2⟩ := hSw
                  go_simp
                try simp only [Act.put, List.setIfInBounds_toArray, List.set_cons_zero, List.set_cons_succ]
                refine wpAnyH_take (i := 3) (oi := ⟨some 123, _, _, _, _, _⟩) (v := .pointer (some ⟨g, 1, none⟩)) rfl (by kernel_rfl) (by kernel_rfl) (by kernel_rfl) (fun _ _ _ h => h) (Or.inl ⟨by rfl, fun w' hSw => ?_⟩) hH ?_
                · obtain ⟨s1, s2⟩ := hSw
                  go_simp
                try simp only [Act.put, List.setIfInBounds_toArray, List.set_cons_zero, List.set_cons_succ]
                refine wpAnyH_take (i := 5) (oi := ⟨some 125, _, _, _, _, _⟩) (v := .int .i64 i) rfl (by kernel_rfl) (by kernel_rfl) (by kernel_rfl) (fun _ _ _ h => h) (Or.inl ⟨by rfl, fun w' hSw => ?_⟩) hH ?_
                · obtain ⟨s1, s2⟩ := hSw
                  go_simp
                try simp only [Act.put, List.setIfInBounds_toArray, List.set_cons_zero, List.set_cons_succ]
                refine wpAnyH_take (i := 6) (oi := ⟨some 126, _, _, _, _, _⟩) (v := .pointer (some ⟨d, 0, none⟩)) rfl (by kernel_rfl) (by kernel_rfl) (by kernel_rfl) (fun _ _ _ h => h) (Or.inl ⟨by rfl, fun w' hSw => ?_⟩) hH ?_
                · obtain ⟨s1, s2⟩ := hSw
                  go_simp
                try simp only [Act.put, List.setIfInBounds_toArray, List.set_cons_zero, List.set_cons_succ]
                refine wpAnyH_take (i := 7) (oi := ⟨some 127, _, _, _, _, _⟩) (v := .pointer (some ⟨d, 0, none⟩)) rfl (by kernel_rfl) (by kernel_rfl) (by kernel_rfl) (fun _ _ _ h => h) (Or.inl ⟨by rfl, fun w' hSw => ?_⟩) hH ?_
                · obtain ⟨s1, s2⟩ := hSw
                  go_simp
                try simp only [Act.put, List.setIfInBounds_toArray, List.set_cons_zero, List.set_cons_succ]
                refine wpAnyH_take (i := 8) (oi := ⟨some 128, _, _, _, _, _⟩) (v := .pointer (some ⟨d, 0, none⟩)) rfl (by kernel_rfl) (by kernel_rfl) (by kernel_rfl) (fun _ _ _ h => h) (Or.inl ⟨by rfl, fun w' hSw => ?_⟩) hH ?_
                · obtain ⟨s1, s2⟩ := hSw
                  go_simp
                try simp only [Act.put, List.setIfInBounds_toArray, List.set_cons_zero, List.set_cons_succ]
                refine wpAnyH_take (i := 9) (oi := ⟨some 129, _, _, _, _, _⟩) (v := .slice (some ⟨gs, 0, none⟩) N cs) rfl (by kernel_rfl) (by kernel_rfl) (by kernel_rfl) (fun _ _ _ h => h) (Or.inl ⟨by rfl, fun w' hSw => ?_⟩) hH ?_
                · obtain ⟨s1, s2⟩ := hSw
                  go_simp
                try simp only [Act.put, List.setIfInBounds_toArray, List.set_cons_zero, List.set_cons_succ]
                refine wpAnyH_take (i := 10) (oi := ⟨some 130, _, _, _, _, _⟩) (v := .int .i64 i) rfl (by kernel_rfl) (by kernel_rfl) (by kernel_rfl) (fun _ _ _ h => h) (Or.inl ⟨by rfl, fun w' hSw => ?_⟩) hH ?_
                · obtain ⟨s1, s2⟩ := hSw
                  go_simp
                try simp only [Act.put, List.setIfInBounds_toArray, List.set_cons_zero, List.set_cons_succ]
                refine wpAnyH_take (i := 11) (oi := ⟨some 131, _, _, _, _, _⟩) (v := .pointer (some ⟨gs, i * 32, none⟩)) rfl (by kernel_rfl) (by kernel_rfl) (by kernel_rfl) (fun _ _ _ h => h) (Or.inl ⟨by rfl, fun w' hSw => ?_⟩) hH ?_
                · obtain ⟨s1, s2⟩ := hSw
                  go_simp
                try simp only [Act.put, List.setIfInBounds_toArray, List.set_cons_zero, List.set_cons_succ]
                refine wpAnyH_take (i := 12) (oi := ⟨some 132, _, _, _, _, _⟩) (v := .agg (sv a).toArray) rfl (by kernel_rfl) (by kernel_rfl) (by kernel_rfl) (fun _ _ _ h => h) (yieldsIf_load_mid (by rfl) _ _ rfl _ _ rfl _ _ (fun w' hSw => hSw.2) Try.underlying53 rfl HSZ2.out) hH ?_
                try simp only [Act.put, List.setIfInBounds_toArray, List.set_cons_zero, List.set_cons_succ]
                refine wpAnyH_take (i := 13) (oi := ⟨some 133, _, _, _, _, _⟩) (v := .agg (wv x).toArray) rfl (by kernel_rfl) (by kernel_rfl) (by kernel_rfl) (fun _ _ _ h => h) (Or.inl ⟨by rfl, fun w' hSw => ?_⟩) hH ?_
                · go_simp
                  rw [HX.out]
                  exact build_cells _ (List.replicate 32 (.int .u8 0)) (sv a) (by simp [hsv])
                try simp only [Act.put, List.setIfInBounds_toArray, List.set_cons_zero, List.set_cons_succ]
                refine wpAnyH_ready (rs := [4, 14]) (by kernel_rfl) (by simp) (AllReadyH.cons rfl (fun K' hK => ?_) (AllReadyH.cons rfl (fun K' hK => ?_) AllReadyH.nil))
                · go_simp
                  refine hK.out _ _ hH (fun _ => ?_)
                  clear hK K'
                  try simp only [Act.put, List.setIfInBounds_toArray, List.set_cons_zero, List.set_cons_succ]
                  refine wpAnyH_ready (rs := [14]) (by kernel_rfl) (by simp) (AllReadyH.cons rfl (fun K' hK => ?_) AllReadyH.nil)
                  go_simp
                  refine hK.out _ _ (HSOF.out _ (((Ext.refl NoS w8).alloc _).drew).of_no) (fun _ => ?_)
                  clear hK K'
                  try simp only [Act.put, List.setIfInBounds_toArray, List.set_cons_zero, List.set_cons_succ]
                  refine wpAnyH_ready (rs := [15]) (by kernel_rfl) (by simp) (AllReadyH.cons rfl (fun K' hK => ?_) AllReadyH.nil)
                  refine step_append_any rfl _ _ 23 rfl w2.heap.size 55 _ 33 40 Try.underlying23 infoWr rfl (by decide) (.slice Ap' ql cp') ql (Q.flatMap wv) rfl (own_ext HPN.out (((Ext.refl NoS w8).alloc _).drew) (fun _ _ h => h)) (some ⟨w8.heap.size, 0, none⟩) 1 1 (wv x) rfl (by rw [hwl]) (fun _ => ⟨_, _, rfl, (Blk.new w8 _ _).all⟩) (wv_one x) (by unfold maxLen; omega) (by omega) (by have := HWE.out; simp [World.drew]; omega) ?_
                  intro v' w9 ho9 hg9 _
                  obtain ⟨h10, hd10, hb9, h9⟩ := disk_push HL8.out.bef (((Ext.refl NoS w8).alloc _).drew) hg9 (by rw [HQL.out]; exact ho9) hx32
                  obtain ⟨A9, c9, hv9, _, _⟩ := own_slice ho9
                  subst hv9
                  clear hg9 ho9
                  have HD10 := hide hd10
                  have H10 := hide h10
                  have H9 := hide h9
                  clear hd10 h10 h9
                  have d1 := hb9.cell 1
                  have e1 := hb9.frozen 1
                  simp at d1
                  refine hK.out _ _ (HSOF.out _ H9.out) (fun _ => ?_)
                  clear hK K'
                  try simp only [Act.put, List.setIfInBounds_toArray]
                  have hH9 := HSOF.out _ H9.out
                  refine wpAnyH_take (i := 16) (oi := ⟨some 136, _, _, _, _, _⟩) (v := .pointer (some ⟨g, 0, none⟩)) rfl (by kernel_rfl) (by kernel_rfl) (by kernel_rfl) (fun _ _ _ h => h) (Or.inl ⟨by rfl, fun w' hSw => ?_⟩) hH9 ?_
                  · obtain ⟨s1, s2⟩ := hSw
                    go_simp
                  try simp only [Act.put]
                  refine wpAnyH_take (i := 17) (oi := ⟨some 137, _, _, _, _, _⟩) (v := .pointer (some ⟨g, 1, none⟩)) rfl (by kernel_rfl) (by kernel_rfl) (by kernel_rfl) (fun _ _ _ h => h) (Or.inl ⟨by rfl, fun w' hSw => ?_⟩) hH9 ?_
                  · obtain ⟨s1, s2⟩ := hSw
                    go_simp
                  try simp only [Act.put]
                  refine wpAnyH_ready (rs := [18]) (by kernel_rfl) (by simp) (AllReadyH.cons rfl (fun K' hK => ?_) AllReadyH.nil)
                  go_simp
                  refine hK.out _ _ (HSOF.out _ H10.out) (fun _ => ?_)
                  clear hK K'
                  try simp only [Act.put, List.setIfInBounds_toArray, List.set_cons_zero, List.set_cons_succ]
                  refine wpAnyH_done (by kernel_rfl) ?_ _
                  have hL10 := HL8.out.step H10.out HD10.out
                  rw [HX.out, HQP.out, List.append_assoc, ← HSC.out] at hL10
                  have HL10 := hide hL10
                  clear hL10
                  go_wp2
                  go_roundw
                  case rel => exact ⟨i + 1, _, by go_num, hlt2, HL10.out⟩
                  case measure => simp [intOf]; omega
                · go_simp
                  refine hK.out _ _ (HSOF.out _ (((Ext.refl NoS w8).alloc _).drew).of_no) (fun _ => ?_)
                  clear hK K'
                  try simp only [Act.put, List.setIfInBounds_toArray, List.set_cons_zero, List.set_cons_succ]
                  refine wpAnyH_ready (rs := [4]) (by kernel_rfl) (by simp) (AllReadyH.cons rfl (fun K' hK => ?_) AllReadyH.nil)
                  go_simp
                  refine hK.out _ _ (HSOF.out _ (((Ext.refl NoS w8).alloc _).drew).of_no) (fun _ => ?_)
                  clear hK K'
                  try simp only [Act.put, List.setIfInBounds_toArray, List.set_cons_zero, List.set_cons_succ]
                  refine wpAnyH_ready (rs := [15]) (by kernel_rfl) (by simp) (AllReadyH.cons rfl (fun K' hK => ?_) AllReadyH.nil)
                  refine step_append_any rfl _ _ 23 rfl w2.heap.size 55 _ 33 40 Try.underlying23 infoWr rfl (by decide) (.slice Ap' ql cp') ql (Q.flatMap wv) rfl (own_ext HPN.out (((Ext.refl NoS w8).alloc _).drew) (fun _ _ h => h)) (some ⟨w8.heap.size, 0, none⟩) 1 1 (wv x) rfl (by rw [hwl]) (fun _ => ⟨_, _, rfl, (Blk.new w8 _ _).all⟩) (wv_one x) (by unfold maxLen; omega) (by omega) (by have := HWE.out; simp [World.drew]; omega) ?_
                  intro v' w9 ho9 hg9 _
                  obtain ⟨h10, hd10, hb9, h9⟩ := disk_push HL8.out.bef (((Ext.refl NoS w8).alloc _).drew) hg9 (by rw [HQL.out]; exact ho9) hx32
                  obtain ⟨A9, c9, hv9, _, _⟩ := own_slice ho9
                  subst hv9
                  clear hg9 ho9
                  have HD10 := hide hd10
                  have H10 := hide h10
                  have H9 := hide h9
                  clear hd10 h10 h9
                  have d1 := hb9.cell 1
                  have e1 := hb9.frozen 1
                  simp at d1
                  refine hK.out _ _ (HSOF.out _ H9.out) (fun _ => ?_)
                  clear hK K'
                  try simp only [Act.put, List.setIfInBounds_toArray]
                  have hH9 := HSOF.out _ H9.out
                  refine wpAnyH_take (i := 16) (oi := ⟨some 136, _, _, _, _, _⟩) (v := .pointer (some ⟨g, 0, none⟩)) rfl (by kernel_rfl) (by kernel_rfl) (by kernel_rfl) (fun _ _ _ h => h) (Or.inl ⟨by rfl, fun w' hSw => ?_⟩) hH9 ?_
                  · obtain ⟨s1, s2⟩ := hSw
                    go_simp
                  try simp only [Act.put]
                  refine wpAnyH_take (i := 17) (oi := ⟨some 137, _, _, _, _, _⟩) (v := .pointer (some ⟨g, 1, none⟩)) rfl (by kernel_rfl) (by kernel_rfl) (by kernel_rfl) (fun _ _ _ h => h) (Or.inl ⟨by rfl, fun w' hSw => ?_⟩) hH9 ?_
                  · obtain ⟨s1, s2⟩ := hSw
                    go_simp
                  try simp only [Act.put]
                  refine wpAnyH_ready (rs := [18]) (by kernel_rfl) (by simp) (AllReadyH.cons rfl (fun K' hK => ?_) AllReadyH.nil)
                  go_simp
                  refine hK.out _ _ (HSOF.out _ H10.out) (fun _ => ?_)
                  clear hK K'
                  try simp only [Act.put, List.setIfInBounds_toArray, List.set_cons_zero, List.set_cons_succ]
                  refine wpAnyH_done (by kernel_rfl) ?_ _
                  have hL10 := HL8.out.step H10.out HD10.out
                  rw [HX.out, HQP.out, List.append_assoc, ← HSC.out] at hL10
                  have HL10 := hide hL10
                  clear hL10
                  go_wp2
                  go_roundw
                  case rel => exact ⟨i + 1, _, by go_num, hlt2, HL10.out⟩
                  case measure => simp [intOf]; omega
            · have hin : i = N := by omega
              subst hin
              go_wp2
              go_meet
              exact ⟨_, HL.out⟩
        case rest =>
          clear HL7
          obtain ⟨vp', hL⟩ := hcut
          obtain ⟨w9, h9⟩ : ∃ x, x = wc := ⟨_, rfl⟩
          subst h9
          have HL := hide hL
          clear hL
          have hdl := diffs_length SA C N
          obtain ⟨Q, hQ⟩ : ∃ Q, Q = P ++ diffs SA C N := ⟨_, rfl⟩
          have hql : Q.length ≤ 200 := by rw [hQ, List.length_append]; omega
          rw [← hQ] at HL
          have HQ := hide hQ
          clear hQ hdl
          have hcp := copied_t w2.heap.size w9 g vs3 vp' S Q HL.out.bef (by omega) (by omega)
          have HCP := hide hcp
          clear hcp
          go_upto_region 32 with (go_at_call 30; refine HCP.out.mono ?_; rintro e w10 ⟨g10, vs10, vp10, rfl, hg10, hd10, hE10⟩; have HD10 := hide hd10; have HE10 := hide hE10; clear hd10 hE10)
          have hsy := sync_t w9.heap.size w10 g10 vs10 vp10 S Q HD10.out (by omega) (by omega)
          have HSY := hide hsy
          clear hsy HCP
          go_upto_region 33 with (go_at_call 13; refine HSY.out.mono ?_; rintro e w11 ⟨rfl, hd11, hx11⟩; have HD11 := hide hd11; have HE11 := hide (HE10.out.trans hx11 (fun i hi e => by rcases e with e | e; omega; have := own_base HD10.out.safe e; omega)); clear hd11 hx11)
          have hfull : crash S Q [] = SA := by
            rw [HQ.out, ← hAl]
            exact crash_full HCC.out (by rw [hAl, hSN])
          rw [hfull] at HD11
          have HL11 := hide (HL.out.no HE11.out)
          have HG10 := hide (show g < w9.heap.size from HL.out.bef.blk.lt)
          have HV3 := hide (fun (x : Nat) (hx : vs3.ownBlock = some x) => own_lt2 HL.out.bef.safe hx)
          clear hfull HSY HD10 HE10 HE11 HL
          -- region 33: the crash
          obtain ⟨Ap', cp', rfl, _, _⟩ := own_slice HL11.out.bef.pend
          have kb := HL11.out.bef.blk.cell 1
          simp at kb
          have hlo := lost_t mask Q.length w11 HMASK.out (by omega)
          have HLO := hide hlo
          clear hlo
          go_upto_region 34 with (first
            | (go_at_call 11; refine HLO.out.mono ?_; rintro e w12 ⟨v12, rfl, ho12, hE12⟩; have HL12 := hide (HL11.out.no hE12); have HD12 := hide (HD11.out.no hE12); have hcr := crash_t w2.heap.size w12 g _ _ v12 S Q (lostL mask Q.length) HL12.out.bef (bools_own (lostL_length _ _) ho12 HL12.out.bef) (by omega) (by omega) (by rw [lostL_length]; omega); have HCR := hide hcr; clear ho12 hE12 hcr)
            | (go_at_call 12; refine HCR.out.mono ?_; rintro e w13 ⟨rfl, hd13, hx13⟩; have HB13 := hide hd13; have HX13 := hide hx13; clear hd13 hx13))
          obtain ⟨V, hV⟩ : ∃ V, V = crash S Q (lostL mask Q.length) := ⟨_, rfl⟩
          rw [← hV] at HB13
          have HVV := hide hV
          have hVl : V.length = N := by rw [hV, crash_length]; exact hSN
          have hm13 : Mod w13 B (.slice AM recs.length cM) recs := by
            refine HL12.out.mod.ext HX13.out (fun x hx => ?_) (fun x _ ⟨cs, hb⟩ h => ?_)
            · obtain ⟨cur, hc⟩ := mod_blk HL12.out.mod hx
              intro h
              rcases h with h | h
              · exact (h ▸ hc).ne_ HL12.out.bef.blk (by decide) rfl
              · exact own_neB HL12.out.bef.safe hc.bb (by decide) h
            · rcases h with h | h
              · exact (h ▸ hb).ne_ HL12.out.bef.blk (by decide) rfl
              · exact own_neB HL12.out.bef.safe hb (by decide) h
          have hb13 : Bytes (fun x => ByteBlk w13 x) w13 (.slice A18 rb.length c18) rb := by
            have hne : ∀ x, ByteBlk w12 x → ¬ DiskS g vs3 x := fun x ⟨cs, hb⟩ h => by
              rcases h with h | h
              · exact (h ▸ hb).ne_ HL12.out.bef.blk (by decide) rfl
              · exact own_neB HL12.out.bef.safe hb (by decide) h
            exact (HL12.out.byt.ext HX13.out (fun x hx _ => hne x hx)).mono (fun x _ hx => hx.ext HX13.out (hne x hx))
          have hd13 : DiskAt w9.heap.size w13 g10 vs10 (.slice none 0 0) SA [] := disk_far HD12.out hg10 HX13.out (fun x hx => by
            rcases hx with hx | hx
            · rw [hx]; exact HG10.out
            · exact HV3.out x hx)
          have hx13 : Ext NoS w0 w13 := HL12.out.ext.trans HX13.out (fun i hi e => by
            have h1 := HL12.out.hm
            have h2 := HL12.out.hg
            rcases e with e | e
            · omega
            · have := own_base HL12.out.bef.safe e; omega)
          have HM13 := hide hm13
          have HY13 := hide hb13
          have HF13 := hide hd13
          have HX0 := hide hx13
          have hw213 : w2.heap.size ≤ w13.heap.size := by have := HL12.out.hg; have := HB13.out.blk.lt; omega
          have hw913 : w9.heap.size ≤ w13.heap.size := by have := HF13.out.blk.lt; omega
          clear hm13 hb13 hd13 hx13 hV HCR HL12 HD12 HL11 HD11 HX13 HLO kb HG10 HV3
          have hop1 := open_t w2.heap.size w13 g _ _ V [] HB13.out (by omega) (by simp) hw213
          have hsn := fun e w' (h : OpenPost w2.heap.size w13 g vs3 (.slice none 0 0) V [] e w') => open_snap HI.out (by rw [hSN]) rb hf (by have := HEP.out; omega) (by have := HLI.out; omega) (by omega) (lostL mask Q.length) HSA.out HCC.out (by rw [HVV.out, HQ.out, hAl]) h
          have HOP1 := hide (hop1.mono hsn)
          clear hop1 hsn
          go_upto_region 35 with (go_at_call 28; refine HOP1.out.mono ?_; rintro e w14 ⟨rs, jx, vrx, arx, epx, lix, enx, rfl, _, hjx, hEx, hrs⟩; have HJX := hide hjx; have HEX := hide hEx; clear hjx hEx)
          clear HOP1
          have hop2 := open_t w9.heap.size w14 g10 _ _ SA [] (HF13.out.no HEX.out) (by omega) (by simp) (by have := HEX.out.size; omega)
          have hfu := fun e w' (h : OpenPost w9.heap.size w14 g10 vs10 (.slice none 0 0) SA [] e w') => open_full HI.out (by rw [hSN]) rb hf (by have := HEP.out; omega) (by have := HLI.out; omega) (by omega) HSA.out h
          have HOP2 := hide (hop2.mono hfu)
          clear hop2 hfu
          go_upto_region 36 with (go_at_call 28; refine HOP2.out.mono ?_; rintro e w15 ⟨jy, vry, ary, epy, liy, eny, rfl, _, hjy, hEy⟩; have HJY := hide hjy; have HEY := hide hEy; clear hjy hEy)
          clear HOP2 HF13 HB13
          have HE15 := hide (HEX.out.trans' HEY.out)
          have hrow : ∀ (W : World), Ext NoS w15 W → ∀ (v : Value) (l : List (List UInt8)), Rd W v l → l.length ≤ 1000 → (∀ r ∈ l, r.length ≤ 60) → ∀ bb : Bool, bb = decide (l = [rb]) →
              Calls Try.prog 29 #[v, .slice (some ⟨W.heap.size, 0, none⟩) 1 1] (W.alloc (.cells #[.slice A18 rb.length c18] 46)) fun e w' => e = .returned (.bool bb) ∧ Ext NoS W w' := fun W hW v l h1 h2 h3 bb hbb => by
            have hx := HE15.out.trans' hW
            have hb : Bytes (fun x => ByteBlk W x) W (.slice A18 rb.length c18) rb := (HY13.out.ext hx (fun _ _ _ h => h)).mono (fun x _ h => h.ext hx (fun h => h))
            have hal : Ext NoS W (W.alloc (.cells #[.slice A18 rb.length c18] 46)) := (Ext.refl _ _).alloc _
            refine (rows_t l [rb] v _ _ (h1.ext hal) (mod_one (B := 0) (Nat.zero_le _) hb).rd (by omega) (fun r hr => by have := h3 r hr; omega) (fun r hr => by rw [List.mem_singleton.1 hr]; omega)).mono fun e w' ⟨he, hx'⟩ => ⟨by rw [he, hbb], hal.trans' hx'⟩
          have HROW := hide hrow
          have hry : Calls Try.prog 26 #[.pointer (some ⟨jy, 0, none⟩)] w15 (RecordsPost w15 [rb]) := records_t _ w15 jy g10 _ _ vry SA [] ary epy liy eny [rb] HJY.out (by simp) (fun r hr => by rw [List.mem_singleton.1 hr]; omega)
          have HRY := hide hry
          have hrs60 : rs.length ≤ 1000 ∧ ∀ r ∈ rs, r.length ≤ 60 := by
            rcases hrs with h | ⟨q, _, _, h⟩
            · rw [h]; exact ⟨by simp, fun r hr => by rw [List.mem_singleton.1 hr]; exact hrl⟩
            · rw [h]; exact ⟨by rw [List.length_take]; omega, fun r hr => HRL0.out r (List.mem_of_mem_take hr)⟩
          have hrx : ∀ W, Ext NoS w15 W → Calls Try.prog 26 #[.pointer (some ⟨jx, 0, none⟩)] W (RecordsPost W rs) := fun W hW => records_t _ W jx g _ _ vrx V [] arx epx lix enx rs ((HJX.out.no HEY.out).no hW) (by omega) (fun r hr => by have := hrs60.2 r hr; omega)
          have HRX := hide hrx
          have HRS := hide hrs60
          have hdt : true = decide ([rb] = [rb]) := by simp
          have HDT := hide hdt
          clear hrow hry hrx hrs60 hdt
          go_upto_region 38 with (first
            | (go_at_call 26; refine HRY.out.mono ?_; rintro e w16 ⟨v16, rfl, hr16, hE16⟩; have hrw := HROW.out w16 hE16 v16 [rb] hr16.rd (by simp) (fun r hr => by rw [List.mem_singleton.1 hr]; exact hrl) true HDT.out; have HRW := hide hrw; have HE16 := hide hE16; clear hr16 hE16 hrw)
            | (go_at_call 29; refine HRW.out.mono ?_; rintro e w17 ⟨rfl, hE17⟩; have HE17 := hide (HE16.out.trans' hE17); clear hE17))
          have HR27 := hide (HRX.out w17 HE17.out)
          by_cases hrb : rs = [rb]
          · have hbt : true = decide (rs = [rb]) := by rw [hrb]; simp
            have HBT := hide hbt
            clear hrb hrs hbt
            go_wp2_with (first
              | (go_at_call 26; refine HR27.out.mono ?_; rintro e w18 ⟨v18, rfl, hr18, hE18⟩; have hrw := HROW.out w18 (HE17.out.trans' hE18) v18 rs hr18.rd HRS.out.1 HRS.out.2 true HBT.out; have HRW2 := hide hrw; have HE18 := hide (HE17.out.trans' hE18); clear hr18 hE18 hrw)
              | (go_at_call 29; refine HRW2.out.mono ?_; rintro e w19 ⟨rfl, hE19⟩; have HE19 := hide (HE18.out.trans' hE19); clear hE19)
              | (go_at_call 10; refine (awake_t _).mono ?_; rintro e w20 ⟨rfl, hE20⟩))
            go_ret
            exact ⟨rfl, HE0.out.trans' (((HX0.out.trans' HE15.out).trans' HE19.out).trans' hE20)⟩
          · obtain ⟨q, hq1, hq2, hrq⟩ : ∃ q, safe ≤ q ∧ q ≤ recs.length ∧ rs = recs.take q := by
              rcases hrs with h | h
              · exact absurd h hrb
              · exact h
            have hbf : false = decide (rs = [rb]) := (decide_eq_false hrb).symm
            have hql2 : rs.length = q := by rw [hrq, List.length_take]; omega
            have HBF := hide hbf
            have HRQ := hide hrq
            have HQL2 := hide hql2
            have hcM : recs.length ≤ cM := by
              obtain ⟨vals, ho, _⟩ := HM13.out
              obtain ⟨A', c', h1, h2, _⟩ := own_slice ho
              injection h1 with _ _ h3
              omega
            clear hrb hrs hbf hrq hql2
            go_upto_region 39 with (go_at_call 26; refine HR27.out.mono ?_; rintro e w18 ⟨v18, rfl, hr18, hE18⟩; obtain ⟨A18', c18', hv18, hk18⟩ := hr18.rd; rw [HQL2.out] at hv18; subst hv18; have HRD := hide hr18.rd; have HE18 := hide (HE17.out.trans' hE18); clear hr18 hE18 hk18)
            have hrw := HROW.out w18 HE18.out _ rs HRD.out HRS.out.1 HRS.out.2 false HBF.out
            have HRW2 := hide hrw
            have hrw3 : ∀ W, Ext NoS w18 W → Calls Try.prog 29 #[.slice A18' q c18', .slice AM q cM] W fun e w' => e = .returned (.bool true) ∧ Ext NoS W w' := fun W hW => by
              have hm := (HM13.out.ext ((HE15.out.trans' HE18.out).trans' hW) (fun _ _ h => h) (fun _ _ _ h => h))
              have hc := (mod_cut hm hq2 (by omega)).rd
              rw [← HRQ.out] at hc
              exact (rows_t rs rs _ _ W (HRD.out.ext hW) hc (by have := HRS.out.1; omega) (fun r hr => by have := HRS.out.2 r hr; omega) (fun r hr => by have := HRS.out.2 r hr; omega)).mono fun e w' ⟨h, hx⟩ => ⟨by rw [h, decide_eq_true rfl], hx⟩
            have HRW3 := hide hrw3
            have z1 : (safe : Int) ≤ (q : Int) := by omega
            have z2 : (q : Int) ≤ (recs.length : Int) := by omega
            have z3 : (q : Int) ≤ (cM : Int) := by omega
            have z4 : (0 : Int) ≤ (q : Int) := by omega
            clear hrw hrw3
            go_wp2_with (first
              | (go_at_call 29; ((with_reducible refine HRW2.out.mono ?_)); rintro e w19 ⟨rfl, hE19⟩; have HE19 := hide hE19; clear hE19)
              | (go_at_call 29; ((with_reducible refine (HRW3.out _ HE19.out).mono ?_)); rintro e w20 ⟨rfl, hE20⟩; have HE20 := hide (HE19.out.trans' hE20); clear hE20)
              | (go_at_call 10; refine (awake_t _).mono ?_; rintro e w21 ⟨rfl, hE21⟩))
            go_ret
            exact ⟨rfl, HE0.out.trans' (((HX0.out.trans' (HE15.out.trans' HE18.out)).trans' HE20.out).trans' hE21)⟩
      · have hc := (HK3.out.check HB.out hN67 (by omega) _ rb HB3.out hrl).2 hf
        have HC := hide hc
        clear hc hf
        go_wp2_with (first
          | (go_at_call 19; refine HC.out.mono ?_; rintro e w4 ⟨rfl, hx4⟩; have HX4 := hide hx4; clear hx4)
          | (go_at_call 10; refine (awake_t _).mono ?_; rintro e w5 ⟨rfl, hE5⟩))
        go_ret
        exact ⟨rfl, HE0.out.trans' ((HK3.out.ext.trans' HX4.out).trans' hE5)⟩
end Go.Proofs.Ytmhhfhmpdpgmbaa
