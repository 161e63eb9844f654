/- Crash and Sync. -/
import Derived.Test.YtmhhfhmpdpgmbaaDisk
import Derived.Test.YtmhhfhmpdpgmbaaRow
import Derived.Deep.RegionHeld3
namespace Go.Proofs.Ytmhhfhmpdpgmbaa
open Go.RowKit

/-- A slice of bools that reads as a list. -/
def Bools (K : Nat → Prop) (w : World) (v : Value) (l : List Bool) : Prop :=
  ∃ A c, v = .slice A l.length c ∧ l.length ≤ c ∧ (l ≠ [] → ∃ b o, A = some ⟨b, o, none⟩ ∧ K b ∧ w.rangeAt b o (l.map Value.bool))

theorem DiskAt.ext {T : Nat → Prop} {B : Nat} {w w' : World} {d : Nat} {vs vp : Value} {S : List Sec} {P : List (Int × Sec)} (h : DiskAt B w d vs vp S P) (he : Ext T w w')
    (h1 : ¬ T d) (h2 : ∀ g, vs.ownBlock = some g → ¬ T g) (h3 : ∀ g, vp.ownBlock = some g → ¬ T g) : DiskAt B w' d vs vp S P :=
  ⟨h.blk.ext he h1, own_ext h.safe he h2, own_ext h.pend he h3, h.s32, h.p32⟩
theorem DiskAt.no {B : Nat} {w w' : World} {d : Nat} {vs vp : Value} {S : List Sec} {P : List (Int × Sec)} (h : DiskAt B w d vs vp S P) (he : Ext NoS w w') : DiskAt B w' d vs vp S P :=
  h.ext he (fun h => h) (fun _ _ h => h) (fun _ _ h => h)

theorem DiskAt.put {B : Nat} {w : World} {d g k : Nat} {vs vp : Value} {S : List Sec} {P : List (Int × Sec)} {s : Sec} (h : DiskAt B w d vs vp S P) (hg : vs.ownBlock = some g) (hk : k < S.length) (hs : s.length = 32) :
    DiskAt B (w.setCells g (k * 32) (sv s)) d vs vp (S.set k s) P := by
  obtain ⟨cur, hcur, _⟩ := own_blk h.safe hg
  have he : Ext (fun b => b = g) w (w.setCells g (k * 32) (sv s)) := Ext.setCells (S := fun b => b = g) (.inl rfl) _ _ _ (Ext.refl _ _)
  have h1 := own_set h.safe (fun x hx => by rw [sv_length, h.s32 x hx]) hg k hk s (by rw [sv_length, hs])
  refine ⟨h.blk.ext he (h.blk.ne_ hcur (by decide)), by rw [List.length_set]; exact h1, own_ext h.pend he (fun b hb e => ?_), fun x hx => ?_, h.p32⟩
  · subst e
    exact own_ne h.pend hcur (by decide) hb
  · rcases List.mem_or_eq_of_mem_set hx with hx | rfl
    · exact h.s32 x hx
    · exact hs
theorem cell_sets {w : World} {p : Addr} {v : Value} {g o : Nat} {vs : List Value} (h : w.cell? p = some v) (hn : ¬ p.block = g) : (w.setCells g o vs).cell? p = some v :=
  Ext.cell (Ext.setCells (S := fun b => b = g) (.inl rfl) _ _ _ (Ext.refl _ _)) h hn
theorem range_sets {w : World} {b i : Nat} {cs : List Value} {g o : Nat} {vs : List Value} (h : w.rangeAt b i cs) (hn : ¬ b = g) : (w.setCells g o vs).rangeAt b i cs :=
  range_ext h (Ext.setCells (S := fun b => b = g) (.inl rfl) _ _ _ (Ext.refl _ _)) hn
theorem put1_skip (S : List Sec) (x : Int × Sec) (b : Bool) (h : b = true ∨ x.1 < 0 ∨ (S.length : Int) ≤ x.1) : put1 S x b = S := by
  unfold put1
  rw [if_neg]
  rintro ⟨h1, h2, h3⟩
  rcases h with h | h | h
  · rw [h1] at h; cases h
  · omega
  · omega
theorem put1_in (S : List Sec) (x : Int × Sec) (h0 : 0 ≤ x.1) (h1 : x.1 < S.length) : put1 S x false = S.set x.1.toNat x.2 := by
  unfold put1
  rw [if_pos ⟨rfl, h0, h1⟩]

set_option maxRecDepth 100000 in
set_option maxHeartbeats 2000000 in
theorem crash_t (B : Nat) (w : World) (d : Nat) (vs vp vl : Value) (S : List Sec) (P : List (Int × Sec)) (L : List Bool) (h : DiskAt B w d vs vp S P) (hl : Bools (fun b => ¬ DiskS d vs b) w vl L)
    (hS : S.length ≤ 1000000) (hP : P.length ≤ 1000000) (_hL : L.length ≤ 1000000000) :
    Calls Try.prog 12 #[.pointer (some ⟨d, 0, none⟩), vl] w fun e w' => e = .returned (.tuple #[]) ∧ DiskAt B w' d vs (.slice none 0 0) (crash S P L) [] ∧ Ext (DiskS d vs) w w' := by
  obtain ⟨As, cs, rfl, hcs, _⟩ := own_slice h.safe
  obtain ⟨Ap, cp, rfl, hcp, _⟩ := own_slice h.pend
  obtain ⟨Al, cl, rfl, hcl, hlr⟩ := hl
  have c0 := h.blk.cell 0
  have c1 := h.blk.cell 1
  simp at c0 c1
  have H := hide h; clear h
  have HLR := hide hlr; clear hlr
  go_enter Try.func12, Try.ntmps12
  go_wp2
  clear c0 c1
  go_loopw [13] (fun i wr => ∃ k : Nat, k ≤ P.length ∧ i = .int .i64 k ∧ DiskAt B wr d (.slice As S.length cs) (.slice Ap P.length cp) (crash S (P.take k) L) P ∧ Ext (DiskS d (.slice As S.length cs)) w wr) (fun i _ => P.length - (intOf i).toNat)
  case atStart => exact ⟨0, Nat.zero_le _, rfl, by simpa [crash_nil] using H.out, Ext.refl _ _⟩
  case round =>
    obtain ⟨k, hk, rfl, hd, he⟩ := hrel
    have c0 := hd.blk.cell 0
    have c1 := hd.blk.cell 1
    simp at c0 c1
    by_cases hlt : k < P.length
    · obtain ⟨gp, cp', hvp, _, _⟩ := hd.pend.form (by omega)
      have hAp : Ap = some ⟨gp, 0, none⟩ := by injection hvp
      clear hvp
      subst hAp
      have hr := own_elem hd.pend (fun x hx => by rw [wv_length, hd.p32 x hx]) rfl k hlt
      obtain ⟨x, hx⟩ : ∃ x, x = P[k] := ⟨_, rfl⟩
      rw [← hx] at hr
      have hx32 : x.2.length = 32 := by rw [hx]; exact hd.p32 _ (List.getElem_mem _)
      have hsz : (Try.prog.info? 55).map (·.size) = some (wv x).length := by rw [sizeWr, wv_length, hx32]
      have hsz2 : (Try.prog.info? 53).map (·.size) = some (sv x.2).length := by rw [sizeSec, sv_length, hx32]
      have HX := hide hx; clear hx
      have HX32 := hide hx32; clear hx32
      have HD := hide hd; clear hd
      have HE := hide he; clear he
      go_wp2_with (first
        | ((with_reducible refine wpList_load_mid (op := ⟨some 17, _, _, _, _, _⟩) rfl 55 _ rfl gp (k * 33) ?_ (wv x) _ hr Try.underlying55 rfl hsz ?_); exact rfl)
        | ((with_reducible refine wpList_store_new (op := ⟨none, .store 55 _ _, _, _, _, _⟩) wr 55 _ (wv x).toArray rfl _ _ rfl ?_ ?_ ?_ ?_ ?_ ?_); (exact rfl); (exact rfl); (simpa using hsz); (have := HX32.out; simp [wv_length, this]); (simpa using wv_one x)))
      obtain ⟨n, hn⟩ : ∃ n, n = wr.heap.size := ⟨_, rfl⟩
      obtain ⟨w1, hw1⟩ : ∃ z, z = wr.alloc (.cells (wv x).toArray 55) := ⟨_, rfl⟩
      have hb : Blk w1 n 55 (wv x).toArray := by rw [hw1, hn]; exact Blk.new _ _ _
      have hd1 := HD.out.no (w' := w1) (by rw [hw1]; exact (Ext.refl _ _).alloc _)
      have he1 := HE.out.trans' (c := w1) (by rw [hw1]; exact (Ext.refl _ _).alloc _)
      rw [← hw1, ← hn]
      clear hw1 c0 c1 hr HD HE hn
      have e0 : w1.cell? ⟨n, 0, none⟩ = some (.int .i64 x.1) := hb.cell 0
      have c0 := hd1.blk.cell 0
      have r1 : w1.rangeAt n 1 (sv x.2) := by
        have := hb.range 1 32
        simp only [wv, List.extract_toArray] at this
        rw [show (List.extract (Value.int .i64 x.1 :: sv x.2) 1 (1 + 32)) = sv x.2 by simp [List.extract, sv, List.take_of_length_le, HX32.out]] at this
        exact this
      simp at c0
      have HD := hide hd1; clear hd1
      have HE := hide he1; clear he1
      have hcs2 := crash_take_succ S P L k hlt
      rw [← HX.out] at hcs2
      have hcl2 := crash_length S (P.take k) L
      have HC := hide hcs2; clear hcs2
      have HCL := hide hcl2; clear hcl2
      have hgone : (L.length ≤ k ∧ L.getD k false = false) ∨ (∃ bl ol, k < L.length ∧ Al = some ⟨bl, ol, none⟩ ∧ ((w1.cell? ⟨bl, ol + k, none⟩ = some (.bool false) ∧ L.getD k false = false) ∨ (w1.cell? ⟨bl, ol + k, none⟩ = some (.bool true) ∧ L.getD k false = true))) := by
        by_cases hkl : L.length ≤ k
        · exact .inl ⟨hkl, by simp [hkl]⟩
        · right
          obtain ⟨bl, ol, hAl, hK, hr⟩ := HLR.out (by intro h; rw [h] at hkl; simp at hkl)
          have hc := HE.out.cell (hr k (.bool (L[k]'(by omega))) (by simp [show k < L.length by omega])) hK
          refine ⟨bl, ol, by omega, hAl, ?_⟩
          rw [List.getD_eq_getElem?_getD, List.getElem?_eq_getElem (by omega)]
          cases hL : L[k]'(by omega)
          · exact .inl ⟨by rw [hc, hL], rfl⟩
          · exact .inr ⟨by rw [hc, hL], rfl⟩
      rcases hgone with ⟨hkl, hgd⟩ | ⟨bl, ol, hkl, hAl, ⟨hcl, hgd⟩ | ⟨hcl, hgd⟩⟩
      case inr.inr =>
        subst hAl
        have hdk : decide (L.length ≤ k) = false := by simpa using hkl
        have HGD := hide hgd; clear hgd
        go_quiet (fail)
        go_wp2
        go_roundw
        case rel => exact ⟨k + 1, by omega, by go_num, by rw [HC.out, put1_skip _ _ _ (.inl HGD.out)]; exact HD.out.no ((Ext.refl _ _).drewN _), HE.out.drewN _⟩
        case measure => simp [intOf]; omega
      all_goals
        have HGD := hide hgd; clear hgd
        by_cases hx0 : x.1 < 0
        · have hd0 : decide (0 ≤ x.1) = false := by simpa using hx0
          try (have hdk : decide (L.length ≤ k) = false := by simpa using hkl)
          try subst hAl
          go_quiet (fail)
          go_wp2
          go_roundw
          case rel => exact ⟨k + 1, by omega, by go_num, by rw [HC.out, put1_skip _ _ _ (.inr (.inl hx0))]; exact HD.out.no ((Ext.refl _ _).drewN _), HE.out.drewN _⟩
          case measure => simp [intOf]; omega
        · have hx0' : 0 ≤ x.1 := by omega
          clear hx0
          by_cases hx1 : x.1 < (S.length : Int)
          · obtain ⟨gs, cs', hvs, _, hgs⟩ := HD.out.safe.form (by rw [HCL.out]; omega)
            have hAs : As = some ⟨gs, 0, none⟩ := by injection hvs
            clear hvs
            subst hAs
            obtain ⟨cur, hcur, _, _, hszc⟩ := own_blk HD.out.safe rfl
            have th : w1.there gs (x.1.toNat * 32) 32 := hcur.there _ _ (by rw [HCL.out] at hszc; omega)
            have hdg : ¬ d = gs := HD.out.blk.ne_ hcur (by decide)
            have hng : ¬ n = gs := hb.ne_ hcur (by decide)
            have hu53 := Try.underlying53
            have hl32 : (sv x.2).length = 32 := by rw [sv_length]; exact HX32.out
            have hone := sv_one x.2
            try (have hdk : decide (L.length ≤ k) = false := by simpa using hkl)
            try subst hAl
            clear hcur hszc
            go_quiet (fail)
            go_wp2
            go_region_held3 (fun w' => w'.cell? ⟨d, 0, none⟩ = some (.slice (some ⟨gs, 0, none⟩) S.length cs) ∧ w'.cell? ⟨n, 0, none⟩ = some (.int .i64 x.1) ∧ w'.rangeAt n 1 (sv x.2) ∧ w'.there gs (x.1.toNat * 32) 32)
              (first
                | exact ⟨c0, e0, r1, th⟩
                | (refine ⟨?_, ?_, ?_, ?_⟩
                   · exact cell_sets (by exact c0) hdg
                   · exact cell_sets (by exact e0) hng
                   · exact range_sets (by exact r1) hng
                   · exact World.there_setCells (by exact th) _ _ _)) (fail)
            go_wp2
            go_roundw
            case rel => 
              refine ⟨k + 1, by omega, by go_num, ?_, Ext.setCells (.inl (.inr rfl)) _ _ _ (HE.out.drewN _).drew⟩
              rw [HC.out, HGD.out, put1_in _ _ hx0' (by rw [HCL.out]; exact hx1)]
              exact DiskAt.put (HD.out.no (((Ext.refl _ _).drewN _).drew)) rfl (by rw [HCL.out]; omega) HX32.out
            case measure => simp [intOf]; omega
          · have hd0 : decide (x.1 < (S.length : Int)) = false := by simpa using hx1
            try (have hdk : decide (L.length ≤ k) = false := by simpa using hkl)
            try subst hAl
            go_quiet (fail)
            go_wp2
            go_roundw
            case rel => exact ⟨k + 1, by omega, by go_num, by rw [HC.out, put1_skip _ _ _ (.inr (.inr (by rw [HCL.out]; omega)))]; exact HD.out.no ((Ext.refl _ _).drewN _), HE.out.drewN _⟩
            case measure => simp [intOf]; omega
    · have ek : P.take k = P := List.take_of_length_le (by omega)
      rw [ek] at hd
      have f1 := hd.blk.frozen 1
      have hbl := hd.blk.set 1 (.slice none 0 0)
      have HBL := hide hbl; clear hbl
      have HD := hide hd; clear hd
      have HE := hide he; clear he
      clear ek
      go_wp2
      go_end0
      have hx := ext_setCell wr d 1 (.slice none 0 0)
      refine ⟨rfl, ⟨by simpa using HBL.out, own_ext HD.out.safe hx (fun g hg e => own_ne HD.out.safe HD.out.blk (by decide) (e ▸ hg)), World.ownsRow_nil _ _ _ _, HD.out.s32, by simp⟩, HE.out.setCell (.inl (.inl rfl)) _⟩

/-- Sync is Crash without a lost write. -/
theorem sync_t (B : Nat) (w : World) (d : Nat) (vs vp : Value) (S : List Sec) (P : List (Int × Sec)) (h : DiskAt B w d vs vp S P) (hS : S.length ≤ 1000000) (hP : P.length ≤ 1000000) :
    Calls Try.prog 13 #[.pointer (some ⟨d, 0, none⟩)] w fun e w' => e = .returned (.tuple #[]) ∧ DiskAt B w' d vs (.slice none 0 0) (crash S P []) [] ∧ Ext (DiskS d vs) w w' := by
  go_enter Try.func13, Try.ntmps13
  go_wp2_with (go_at_call 12; refine (crash_t B _ d vs vp (.slice none 0 0) S P [] h ⟨none, 0, rfl, Nat.le_refl _, fun h => absurd rfl h⟩ hS hP (by simp)).mono ?_; rintro e w' ⟨rfl, h1, h2⟩)
  go_end0
  exact ⟨rfl, by assumption, by assumption⟩
theorem crash_nil_t (w : World) (v : Value) : Calls Try.prog 12 #[.pointer none, v] w fun e w' => e = .returned (.tuple #[]) ∧ w = w' := by
  go_enter Try.func12, Try.ntmps12
  go_wp2
  refine bodyPost_ret (results_none rfl _ _ _) rfl ?_
  exact ⟨rfl, rfl⟩
theorem sync_nil_t (w : World) : Calls Try.prog 13 #[.pointer none] w fun e w' => e = .returned (.tuple #[]) ∧ w = w' := by
  go_enter Try.func13, Try.ntmps13
  go_wp2_with (go_at_call 12; refine (crash_nil_t _ _).mono ?_; rintro e w' ⟨rfl, rfl⟩)
  go_end0
  exact ⟨rfl, rfl⟩
end Go.Proofs.Ytmhhfhmpdpgmbaa
