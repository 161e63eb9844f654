/- The sectors of a record: the iterator. -/
import Derived.Test.YtmhhfhmpdpgmbaaRange2
import Derived.Sort.CutIn
import Derived.Stop.RegionWithIn
namespace Go.Proofs.Ytmhhfhmpdpgmbaa
open Go.RowKit
attribute [local go_sem] Oper.semAt_some

/-- A record's sectors: the payload, the flags, the sector with the index k. -/
def payK (b : List UInt8) (k : Nat) : List UInt8 := (b.drop (18 * k)).take 18
def flagK (b : List UInt8) (k : Nat) : Nat := (if k = 0 then 1 else 0) ||| (if k + 1 = needN b.length then 2 else 0)
def secK (e l n : Nat) (b : List UInt8) (k : Nat) : Sec := sectorOf e l (n + k) (flagK b k) (payK b k)
theorem needN_pos (n : Nat) : 0 < needN n := by unfold needN; omega
theorem last_iff (b : List UInt8) (k : Nat) (hk : k < needN b.length) : min (b.length - 18 * k) 18 = b.length - 18 * k ↔ k + 1 = needN b.length := by
  unfold needN at *; omega

theorem cellOf_eq {w : World} {a : Addr} {v : Value} (h : w.cell? a = some v) : cellOf w a = v := by
  unfold cellOf
  rw [h]
  rfl
structure SecRel (J : Nat → World → Prop) (mB bB e life num : Nat) (b : List UInt8) (k : Nat) (wr : World) : Prop where
  hJ : J k wr
  hm : Blk wr mB 85 #[.int .i64 e, .int .i64 life, .int .i64 (num + k : Nat), .int .i64 (if k = 0 then 1 else 0 : Nat)]
  hb : ∃ v, Blk wr bB 46 #[v] ∧ Bytes (fun x => ByteBlk wr x) wr v (b.drop (18 * k))

set_option maxRecDepth 100000 in
set_option maxHeartbeats 4000000 in
theorem sectors1_t (J : Nat → World → Prop) (n l mB bB e life num : Nat) (v : Value) (b : List UInt8) (w : World) (h1 : 1 ≤ n) (hlen : b.length ≤ 1000000) (he : e < 4294967296) (hl : life < 4294967296) (hn : num < 4294967296)
    (hm : Blk w mB 85 #[.int .i64 e, .int .i64 life, .int .i64 num, .int .i64 0]) (hb : Blk w bB 46 #[v]) (hbyt : Bytes (fun x => ByteBlk w x) w v b)
    (hJ : ∀ k W W', J k W → Ext (fun x => x = mB ∨ x = bB) W W' → J k W')
    (hY : ∀ k W, k < needN b.length → J k W → YieldAt Fence.wide (n - 1) Try.prog l #[.int .i64 (num + k : Nat), .agg (sv (secK e life num b k)).toArray] W fun en W' => en = .returned (.bool true) ∧ J (k + 1) W' ∧ Ext (Loud W) W W')
    (h0 : J 0 w) : CallsIn Fence.wide n Try.prog 46 #[.func (.yield l) #[] #[], .pointer (some ⟨mB, 0, none⟩), .pointer (some ⟨bB, 0, none⟩)] w fun e W' => e = .returned (.tuple #[]) ∧ J (needN b.length) W' := by
  have m3 := hm.cell 3
  have f3 := hm.frozen 3
  simp at m3
  have HJ := hide hJ; clear hJ
  have HY := hide hY; clear hY
  have HM := hide hm; clear hm
  have HB := hide hb; clear hb
  have HBYT := hide hbyt; clear hbyt
  have H0 := hide h0; clear h0
  refine callsIn_of_wp Try.func46 rfl trivial ?_
  simp only [Try.ntmps46, List.size_toArray, List.length_cons, List.length_nil, Nat.reduceAdd, Nat.reduceSub, Array.replicate_succ, Array.replicate_zero, List.push_toArray, List.append_toArray, List.nil_append, List.cons_append]
  gi_wp2
  have hrel0 : SecRel J mB bB e life num b 0 (w.setCell ⟨mB, 3, none⟩ (.int .i64 1)) := by
    have hE := ext_setCell w mB 3 (.int .i64 1)
    have h1 := HM.out.set 3 (.int .i64 1)
    have hne : bB ≠ mB := fun e => (e ▸ HB.out).ne_ HM.out (by decide) rfl
    refine ⟨HJ.out 0 _ _ H0.out (hE.mono (fun _ _ h => .inl h)), by simpa using h1, v, HB.out.ext hE hne, ?_⟩
    refine (Bytes.ext HBYT.out hE (fun x ⟨cs, hx⟩ _ e => (e ▸ hx).ne_ HM.out (by decide) rfl)).mono (fun x _ h => h.ext hE (fun e => ?_))
    obtain ⟨cs, hx⟩ := h
    exact (e ▸ hx).ne_ HM.out (by decide) rfl
  obtain ⟨W, hW⟩ : ∃ W, W = w.setCell ⟨mB, 3, none⟩ (.int .i64 1) := ⟨_, rfl⟩
  rw [← hW] at hrel0 ⊢
  clear hW m3 f3 HM HB HBYT H0
  gi_loopw [4] (fun v4 wr => ∃ k : Nat, k < needN b.length ∧ SecRel J mB bB e life num b k wr) (fun v4 wr => num + needN b.length - (intOf (cellOf wr ⟨mB, 2, none⟩)).toNat)
  case atStart => exact ⟨0, needN_pos _, hrel0⟩
  case round =>
    clear hrel0 W
    obtain ⟨k, hk, hrel⟩ := hrel
    obtain ⟨vb, hbB, hbyt⟩ := hrel.hb
    obtain ⟨A2, c2, rfl, hc2, hr2⟩ := hbyt
    have m0 := hrel.hm.cell 0
    have m1 := hrel.hm.cell 1
    have m2 := hrel.hm.cell 2
    have m3 := hrel.hm.cell 3
    have p3 := hrel.hm.frozen 3
    have b0 := hbB.cell 0
    have q0 := hbB.frozen 0
    simp at m0 m1 m2 m3 b0
    have hlast := last_iff b k hk
    have hdl : (b.drop (18 * k)).length = b.length - 18 * k := by simp
    obtain ⟨len, hln⟩ : ∃ n, n = b.length - 18 * k := ⟨_, rfl⟩
    rw [hdl] at hc2
    rw [← hln] at b0 hc2 hlast
    have hll : len ≤ 1000000 := by omega
    have hpay : payK b k = (b.drop (18 * k)).take (min len 18) := by
      unfold payK
      by_cases h : len ≤ 18
      · rw [Nat.min_eq_left h, List.take_of_length_le (by omega), List.take_of_length_le (by omega)]
      · rw [Nat.min_eq_right (by omega)]
    obtain ⟨fl, hfl⟩ : ∃ f, f = (if k = 0 then 1 else 0) := ⟨_, rfl⟩
    rw [← hfl] at m3
    have hfl2 : fl ≤ 1 := by rw [hfl]; split <;> omega
    have hor : bits .or .i64 (fl : Int) 2 = ((fl ||| 2 : Nat) : Int) := i64_or_nat fl 2 (by omega) (by omega)
    have HREL := hide hrel
    have HBB := hide hbB
    have HPAY := hide hpay
    have HFL := hide hfl
    have HDL := hide hdl
    have HLN := hide hln
    have HR2 := hide hr2
    clear hrel hbB hpay hfl hdl hr2 hln
    have hnl : ¬ ((fl ||| 2 : Nat) &&& 2 = 0) := by
      have : fl = 0 ∨ fl = 1 := by omega
      rcases this with rfl | rfl <;> decide
    have hnf : fl &&& 2 = 0 := by
      have : fl = 0 ∨ fl = 1 := by omega
      rcases this with rfl | rfl <;> decide
    gi_upto_if 13 with fail
    obtain ⟨nk, hnk⟩ : ∃ x, x = num + k := ⟨_, rfl⟩
    obtain ⟨nn, hnn⟩ : ∃ x, x = min len 18 := ⟨_, rfl⟩
    have hnkb : nk < 4611686018427387904 := by
      have : needN b.length ≤ b.length + 1 := by unfold needN; omega
      omega
    have hrm := HREL.out.hm
    rw [← hnk, ← HFL.out] at hrm
    have m2' : wr.cell? ⟨mB, 2, none⟩ = some (.int .i64 nk) := by rw [m2, hnk]; simp
    clear m2
    gi_cut [4] from 9 (fun v4 w' => v4 = .int .i64 (nn : Nat) ∧ Ext (fun b => b = mB) wr w' ∧ Blk w' mB 85 #[.int .i64 e, .int .i64 life, .int .i64 nk, .int .i64 (if len ≤ 18 then fl ||| 2 else fl : Nat)])
    case first =>
      have HRM := hide hrm; clear hrm
      have HNK := hide hnk; clear hnk
      have HNN := hide hnn; clear hnn
      by_cases hL : len ≤ 18
      · gi_wp2_with fail
        gi_meet
        rw [if_pos hL]
        have hE := ext_setCell wr mB 3 (.int .i64 (fl ||| 2 : Nat))
        exact ⟨by rw [HNN.out, Nat.min_eq_left hL], hE, by simpa using HRM.out.set 3 (.int .i64 (fl ||| 2 : Nat))⟩
      · gi_wp2_with fail
        gi_meet
        rw [if_neg hL]
        exact ⟨by rw [HNN.out, Nat.min_eq_right (by omega)]; rfl, Ext.refl _ _, HRM.out⟩
    case rest =>
      obtain ⟨rfl, hE, hM⟩ := hcut
      have hJk : J k wc := HJ.out k _ _ HREL.out.hJ (hE.mono fun _ _ h => .inl h)
      have hne : bB ≠ mB := fun e => (e ▸ HBB.out).ne_ HREL.out.hm (by decide) rfl
      have b0' := hE.cell b0 hne
      have q0' := (HBB.out.ext hE hne).frozen 0
      obtain ⟨F, hF⟩ : ∃ x, x = (if len ≤ 18 then fl ||| 2 else fl) := ⟨_, rfl⟩
      rw [← hF] at hM
      have hF4 : F < 4 := by
        have : fl = 0 ∨ fl = 1 := by omega
        rw [hF]
        rcases this with rfl | rfl <;> split <;> decide
      have hF2 : F &&& 2 = 0 ↔ ¬ k + 1 = needN b.length := by
        rw [hF, ← hlast]
        split
        · rename_i h
          exact ⟨fun h' => absurd h' hnl, fun h' => absurd (Nat.min_eq_left h) h'⟩
        · rename_i h
          exact ⟨fun _ => by rw [Nat.min_eq_right (by omega)]; omega, fun _ => hnf⟩
      have hbit := and2 F (by omega)
      have hsec : secK e life num b k = sectorOf e life nk F (payK b k) := by
        unfold secK flagK
        rw [← hnk, hF, HFL.out]
        congr 1
        by_cases h : len ≤ 18
        · rw [if_pos h, if_pos (hlast.1 (Nat.min_eq_left h))]
        · rw [if_neg h, if_neg (show ¬ (k + 1 = needN b.length) from fun h' => by have := hlast.2 h'; omega)]; simp
      have hpl : (payK b k).length = nn := by
        have := HDL.out
        have := HLN.out
        rw [HPAY.out, List.length_take]; omega
      have hp2 : Bytes (fun x => ByteBlk wc x) wc (.slice A2 nn c2) (payK b k) := by
        refine ⟨A2, c2, by rw [hpl], by omega, fun h => ?_⟩
        have hd : b.drop (18 * k) ≠ [] := fun e => by unfold payK at h; rw [e] at h; simp at h
        obtain ⟨x, o, h1, hx, hr⟩ := HR2.out hd
        have hxm : x ≠ mB := fun e => by
          obtain ⟨cs, hx⟩ := hx
          exact (e ▸ hx).ne_ HREL.out.hm (by decide) rfl
        refine ⟨x, o, h1, hx.ext hE hxm, ?_⟩
        have := range_take (range_ext hr hE hxm) 18
        rwa [← List.map_take] at this
      have hyk : ∀ W, J k W → YieldAt Fence.wide (n - 1) Try.prog l #[.int .i64 nk, .agg (sv (sectorOf e life nk F (payK b k))).toArray] W fun en W' => en = .returned (.bool true) ∧ J (k + 1) W' ∧ Ext (Loud W) W W' := fun W h => by
        have := HY.out k W hk h
        rwa [hsec, ← hnk] at this
      have hnc : nn ≤ c2 := by omega
      have m0 := hM.cell 0
      have m1 := hM.cell 1
      have m2 := hM.cell 2
      have m3 := hM.cell 3
      simp at m0 m1 m2 m3
      have HYK := hide hyk
      have HP2 := hide hp2
      have HPL := hide hpl
      have HM := hide hM
      have HJK := hide hJk
      have HF2 := hide hF2
      have HE := hide hE
      have HNK := hide hnk
      have HNN := hide hnn
      have HF := hide hF
      have hsc : ∀ W, Ext NoS wc W → CallsIn Fence.wide (n - 1) Try.prog 45 #[.agg #[.int .i64 e, .int .i64 life, .int .i64 nk, .int .i64 F], .slice A2 nn c2] W fun e' w3 => e' = .returned (.agg (sv (sectorOf e life nk F (payK b k))).toArray) ∧ Ext NoS W w3 := fun W hW =>
        callsIn_wide.2 (sector_t (fun x => ByteBlk wc x) e life nk F (payK b k) (.slice A2 nn c2) W (Bytes.ext HP2.out hW (fun _ _ _ h => h)) (by have := HPL.out; omega) (by omega) (by omega) (by omega) (by omega))
      have HSC := hide hsc; clear hsc
      clear hyk hp2 hpl hM hJk hF2 hE hnk hnn hF hsec b0 q0 p3 m2' hnl hnf hor hlast hrm HPAY HFL
      gi_upto_region 5 with fail
      gi_cut [33] from 18 (fun v33 w' => v33 = .bool (((F &&& 2 : Nat) : Int) != 0) ∧ J (k + 1) w' ∧ Blk w' mB 85 #[.int .i64 e, .int .i64 life, .int .i64 nk, .int .i64 F] ∧ Blk w' bB 46 #[.slice A2 len c2] ∧ Bytes (fun x => ByteBlk w' x) w' (.slice A2 len c2) (b.drop (18 * k)))
      case first =>
        gi_region_with (first
          | (refine ⟨trivial, ?_⟩; gi_at_call 45; refine (CallsIn.mono (HSC.out _ (Ext.refl NoS wc).drew) ?_); rintro e' w3 ⟨rfl, hE3⟩; have hE4 : Ext NoS wc w3 := (Ext.refl NoS wc).drew.trans' hE3; have hJ3 := HJ.out k _ _ HJK.out hE4.of_no; obtain ⟨fn, tm, asn, bdy, hy, hR⟩ := HYK.out _ hJ3; have hM3 := HM.out.ext hE4 (fun h => h); have hlm : ¬ Loud w3 mB := (fun h => h ⟨_, _, .inl rfl, hM3.bb⟩); have y3 := hE4.cell m3 (fun h => h); have y2 := hE4.cell m2 (fun h => h))
          | (refine hR.mono ?_; rintro e' w4 ⟨rfl, hJ4, hE5⟩; clear hy hR; have y4 := hE5.cell y3 hlm))
        all_goals
          have hM4 := hM3.ext hE5 hlm
          have hbB3 : Blk w3 bB 46 _ := (HBB.out.ext HE.out hne).ext hE4 (fun h => h)
          have hbB4 := hbB3.ext hE5 (fun h => h ⟨_, _, .inr (.inl rfl), hbB3.bb⟩)
          gi_wp2_with fail
          gi_meet
          refine ⟨rfl, hJ4, hM4, by rw [HDL.out, ← HLN.out] at hbB4; exact hbB4, A2, c2, by rw [HDL.out, ← HLN.out], by rw [HDL.out, ← HLN.out]; exact hc2, fun hn => ?_⟩
          obtain ⟨x, o, e1, hx, hr⟩ := HR2.out hn
          have hx1 : ¬ (x = mB) := fun e => by
            obtain ⟨cs, hx⟩ := hx
            exact (e ▸ hx).ne_ HREL.out.hm (by decide) rfl
          have hx3 := (hx.ext HE.out hx1).ext hE4 (fun h => h)
          have hx4 : ¬ Loud w3 x := fun h => by
            obtain ⟨cs, hx⟩ := hx3
            exact h ⟨_, _, .inr (.inr rfl), hx⟩
          exact ⟨x, o, e1, hx3.ext hE5 hx4, range_ext (range_ext (range_ext hr HE.out hx1) hE4 (fun h => h)) hE5 hx4⟩
      case rest =>
        obtain ⟨rfl, hJ4, hM4, hbB4, hbyt4⟩ := hcut
        clear m0 m1 m2 m3 b0' q0' hbit
        by_cases hL : k + 1 = needN b.length
        · have hbo : (((F &&& 2 : Nat) : Int) != 0) = true := by
            have := HF2.out
            rw [bne_iff_ne]; omega
          rw [hbo]
          have HL := hide hL
          clear hL hbo hM4 hbB4 hbyt4
          gi_wp2
          refine bodyPost_ret (results_none rfl _ _ _) rfl ?_
          exact ⟨rfl, by rw [← HL.out]; exact hJ4⟩
        · have hbo : (((F &&& 2 : Nat) : Int) != 0) = false := by
            have := HF2.out.2 hL
            rw [this]; rfl
          rw [hbo]
          have hll18 : ¬ len ≤ 18 := fun h => by
            have h1 := HLN.out
            have h2 := hk
            have h3 := hL
            unfold needN at h2 h3
            omega
          have hnn18 : nn = 18 := by rw [HNN.out]; omega
          obtain ⟨A3, c3, hv3, hc3, hr3⟩ := hbyt4
          obtain ⟨x, o, hA, hx, hr⟩ := hr3 (by
            intro h
            have := HDL.out
            have := HLN.out
            rw [h] at *
            simp at *
            omega)
          injection hv3 with e1 e2 e3
          subst e1 e3 hA
          subst hnn18
          have m2 := hM4.cell 2
          have p2 := hM4.frozen 2
          have p3 := hM4.frozen 3
          have m3 := hM4.cell 3
          have b0 := hbB4.cell 0
          have q0 := hbB4.frozen 0
          simp at m2 m3 b0
          have hb1 : (18 : Int) ≤ (len : Int) := by omega
          have hb2 : (len : Int) ≤ (c2 : Int) := by omega
          have HM4 := hide hM4
          have HBB4 := hide hbB4
          have HR := hide hr
          have HX := hide hx
          have HL := hide hL
          clear hM4 hbB4 hr hx hL hbo hr3 hc3 e2
          gi_wp2
          have hblk := ((HM4.out.ext (ext_setCell wc bB 0 (.slice (some ⟨x, o + 18, none⟩) (len - 18) (c2 - 18))) (fun e => hne e.symm)).set 2 (.int .i64 ((nk : Int) + 1))).set 3 (.int .i64 0)
          have hE7 : Ext (fun z => z = mB ∨ z = bB) wc (((wc.setCell ⟨bB, 0, none⟩ (.slice (some ⟨x, o + 18, none⟩) (len - 18) (c2 - 18))).setCell ⟨mB, 2, none⟩ (.int .i64 ((nk : Int) + 1))).setCell ⟨mB, 3, none⟩ (.int .i64 0)) :=
            (((ext_setCell _ _ _ _).mono (fun _ _ h => .inr h)).trans' ((ext_setCell _ _ _ _).mono (fun _ _ h => .inl h))).trans' ((ext_setCell _ _ _ _).mono (fun _ _ h => .inl h))
          have hnk1 : ((nk : Int) + 1) = ((num + (k + 1) : Nat) : Int) := by rw [HNK.out]; omega
          have hxm : ¬ (x = mB ∨ x = bB) := fun e => by
            obtain ⟨cs, hx⟩ := HX.out
            rcases e with e | e
            · exact (e ▸ hx).ne_ HM4.out (by decide) rfl
            · exact (e ▸ hx).ne_ HBB4.out (by decide) rfl
          have hd : b.drop (18 * (k + 1)) = (b.drop (18 * k)).drop 18 := by rw [List.drop_drop]; congr 1
          have hk1 : k + 1 < needN b.length := by have := HL.out; omega
          refine ⟨⟨k + 1, hk1, HJ.out _ _ _ hJ4 hE7, ?_, ?_⟩, ?_⟩
          · rw [if_neg (by omega), ← hnk1]
            simpa using hblk
          · refine ⟨.slice (some ⟨x, o + 18, none⟩) (len - 18) (c2 - 18), ?_, some ⟨x, o + 18, none⟩, c2 - 18, ?_, ?_, fun _ => ⟨x, o + 18, rfl, HX.out.ext hE7 hxm, ?_⟩⟩
            · have := HBB4.out.set 0 (.slice (some ⟨x, o + 18, none⟩) (len - 18) (c2 - 18))
              exact ((show Blk _ bB _ #[.slice (some ⟨x, o + 18, none⟩) (len - 18) (c2 - 18)] by simpa using this).ext (ext_setCell _ mB 2 _) hne).ext (ext_setCell _ mB 3 _) hne
            · rw [hd, List.length_drop, HDL.out, ← HLN.out]
            · rw [hd, List.length_drop, HDL.out, ← HLN.out]; omega
            · have := range_ext (range_drop HR.out 18) hE7 hxm
              rwa [← List.map_drop, ← hd] at this
          · have c1 := hblk.cell 2
            have c2 := HREL.out.hm.cell 2
            simp at c1 c2
            rw [cellOf_eq c1, cellOf_eq c2]
            have := HNK.out
            simp [intOf]
            omega
end Go.Proofs.Ytmhhfhmpdpgmbaa
