/- given: a disk as the reference has it. -/
import Derived.Test.YtmhhfhmpdpgmbaaKeepM
namespace Go.Proofs.Ytmhhfhmpdpgmbaa
open Go.RowKit

/-- A slice that reads as some cells. -/
def RowAt (w : World) (v : Value) (n : Nat) (xs : List Value) : Prop := ∃ A c, v = .slice A n c ∧ n ≤ c ∧ (xs ≠ [] → ∃ b o, A = some ⟨b, o, none⟩ ∧ w.rangeAt b o xs)
theorem RowAt.ext {w w' : World} {v : Value} {n : Nat} {xs : List Value} (h : RowAt w v n xs) (he : Ext NoS w w') : RowAt w' v n xs := by
  obtain ⟨A, c, rfl, hc, h⟩ := h
  exact ⟨A, c, rfl, hc, fun hn => by obtain ⟨b, o, h1, h2⟩ := h hn; exact ⟨b, o, h1, range_ext h2 he (fun h => h)⟩⟩
theorem RowAt.of_own {w : World} {B : Nat} {e : TypeId} {size n : Nat} {v : Value} {xs : List Value} (h : w.ownsRow B e size v n xs) : RowAt w v n xs := by
  obtain ⟨A, c, rfl, hc, _⟩ := own_slice h
  exact ⟨A, c, rfl, hc, fun hn => own_src h hn⟩
/-- One element of it. -/
theorem RowAt.elem {α : Type} {w : World} {n size : Nat} {f : α → List Value} {l : List α} {A : Option Addr} {m c : Nat} (h : RowAt w (.slice A m c) n (l.flatMap f)) (hl : ∀ x ∈ l, (f x).length = size) (h0 : 0 < size) (k : Nat) (hk : k < l.length) :
    ∃ b o, A = some ⟨b, o, none⟩ ∧ w.rangeAt b (o + k * size) (f l[k]) := by
  obtain ⟨A', c', hv, _, h⟩ := h
  injection hv with hA _ _
  subst hA
  have hlen := flat_length f size l hl
  obtain ⟨b, o, h1, h2⟩ := h (fun e => by
    rw [e] at hlen
    have : 0 < l.length * size := Nat.mul_pos (by omega) h0
    simp at hlen
    omega)
  refine ⟨b, o, h1, ?_⟩
  have h3 := range_take (range_drop h2 (k * size)) size
  rwa [flat_drop f size l k hl hk] at h3

theorem infoRSec : (Try.prog.info? 77).map (fun i => (i.zero, i.size, i.bytes)) = some (some (.agg (List.replicate 32 (.int .u8 0)).toArray), 32, 32) := by kernel_rfl
theorem infoRWr : (Try.prog.info? 79).map (fun i => (i.zero, i.size, i.bytes)) = some (some (.agg (.int .i64 0 :: List.replicate 32 (.int .u8 0)).toArray), 33, 40) := by kernel_rfl
theorem sizeRSec : (Try.prog.info? 77).map (·.size) = some 32 := by kernel_rfl
theorem sizeRWr : (Try.prog.info? 79).map (·.size) = some 33 := by kernel_rfl

/-- A disk of the reference, by value. -/
structure RefAt (B : Nat) (w : World) (vs vp : Value) (S : List Sec) (P : List (Int × Sec)) : Prop where
  safe : w.ownsRow B 77 32 vs S.length (S.flatMap sv)
  pend : w.ownsRow B 79 33 vp P.length (P.flatMap wv)
  s32 : ∀ s ∈ S, s.length = 32
  p32 : ∀ x ∈ P, x.2.length = 32

set_option maxRecDepth 100000 in
set_option maxHeartbeats 8000000 in
theorem given_t (vs vp : Value) (S : List Sec) (P : List (Int × Sec)) (w : World) (h1 : RowAt w vs S.length (S.flatMap sv)) (h2 : RowAt w vp P.length (P.flatMap wv)) (s32 : ∀ s ∈ S, s.length = 32) (p32 : ∀ x ∈ P, x.2.length = 32)
    (hS : S.length ≤ 100000) (hP : P.length ≤ 100000) :
    Calls Try.prog 16 #[.agg #[vs, vp]] w fun e w' => ∃ vs' vp', e = .returned (.agg #[vs', vp']) ∧ RefAt w.heap.size w' vs' vp' S P ∧ Ext NoS w w' := by
  have k1 := h1
  have k2 := h2
  obtain ⟨As, cs, rfl, _, _⟩ := h1
  obtain ⟨Ap, cp, rfl, _, _⟩ := h2
  have HR1 := hide k1
  have HR2 := hide k2
  have HS32 := hide s32
  have HP32 := hide p32
  clear k1 k2 s32 p32
  obtain ⟨n, hn⟩ : ∃ n, n = S.length := ⟨_, rfl⟩
  obtain ⟨m, hm⟩ : ∃ n, n = P.length := ⟨_, rfl⟩
  rw [← hn] at HR1 hS ⊢
  rw [← hm] at HR2 hP ⊢
  have HN := hide hn
  have HM := hide hm
  clear hn hm
  go_enter Try.func16, Try.ntmps16
  go_upto_region 2 with fail
  obtain ⟨g1, hg1⟩ : ∃ g, g = w.heap.size := ⟨_, rfl⟩
  obtain ⟨g2, hg2⟩ : ∃ g, g = w.heap.size + 1 := ⟨_, rfl⟩
  obtain ⟨g3, hg3⟩ : ∃ g, g = w.heap.size + 1 + 1 := ⟨_, rfl⟩
  rw [← hg3, ← hg2, ← hg1]
  refine wp_world (fun W => Ext NoS w W ∧ Blk W g1 25 #[.slice As n cs, .slice Ap m cp] ∧ Blk W g2 36 #[.slice none 0 0, .slice none 0 0] ∧ Blk W g3 36 #[.slice none 0 0, .slice none 0 0])
    ⟨(((Ext.refl _ _).alloc _).alloc _).alloc _, by rw [hg1]; exact ((Blk.new w _ _).alloc _).alloc _, ?_, ?_⟩ ?_
  · rw [hg2]
    have := (Blk.new (w.alloc (.cells #[.slice As n cs, .slice Ap m cp] 25)) 36 #[.slice none 0 0, .slice none 0 0]).alloc (.cells #[.slice none 0 0, .slice none 0 0] 36)
    simpa using this
  · rw [hg3]
    have := Blk.new ((w.alloc (.cells #[.slice As n cs, .slice Ap m cp] 25)).alloc (.cells #[.slice none 0 0, .slice none 0 0] 36)) 36 #[.slice none 0 0, .slice none 0 0]
    simpa using this
  rintro W ⟨hEW, hb1, hb2, hb3⟩
  have HG := hide (show w.heap.size ≤ g1 ∧ w.heap.size ≤ g2 ∧ w.heap.size ≤ g3 ∧ g1 ≠ g3 ∧ g2 ≠ g3 by omega)
  have HEW := hide hEW
  have HB1 := hide hb1
  have HB2 := hide hb2
  have HB3 := hide hb3
  clear hg1 hg2 hg3 hEW hb1 hb2 hb3
  have d0 := HB1.out.cell 0
  simp at d0
  go_upto_block 0 with fail
  clear d0
  go_cut [] (fun w' => ∃ vs', Blk w' g3 36 #[vs', .slice none 0 0] ∧ w'.ownsRow W.heap.size 77 32 vs' n (S.flatMap sv) ∧ Ext (fun x => x = g3) W w')
  case first =>
    go_upto_region 3 with fail
    go_loopw [11] (fun v11 wr => ∃ (k : Nat) (vs' : Value), v11 = .int .i64 k ∧ k ≤ n ∧ Blk wr g3 36 #[vs', .slice none 0 0] ∧ wr.ownsRow W.heap.size 77 32 vs' k ((S.take k).flatMap sv) ∧ Ext (fun x => x = g3) W wr) (fun v _ => n - (intOf v).toNat)
    case atStart => exact ⟨0, _, rfl, Nat.zero_le _, HB3.out, World.ownsRow_nil _ _ _ _, Ext.refl _ _⟩
    case round =>
      obtain ⟨k, vs', rfl, hk, hb3, ho, hE⟩ := hrel
      have HB := hide hb3
      have HO := hide ho
      have HE := hide hE
      clear hb3 ho hE
      by_cases hlt : k < n
      · have hlti : (k : Int) < (n : Int) := by omega
        have hkS : k < S.length := by rw [← HN.out]; exact hlt
        have HW1 := hide (show Ext NoS w wr from HEW.out.trans HE.out (fun i hi e => by have := HG.out; have e : i = g3 := e; omega))
        obtain ⟨b, o, rfl, hr⟩ := (HR1.out.ext HW1.out).elem (fun x hx => by rw [sv_length, HS32.out x hx]) (by decide) k hkS
        obtain ⟨s, hs⟩ : ∃ s, s = S[k] := ⟨_, rfl⟩
        rw [← hs] at hr
        have hs32 : s.length = 32 := by rw [hs]; exact HS32.out _ (List.getElem_mem _)
        have hsv : (sv s).length = 32 := by rw [sv_length, hs32]
        have hsz : (Try.prog.info? 53).map (·.size) = some (sv s).length := by rw [sizeSec, hsv]
        have htk : (S.take (k + 1)).flatMap sv = (S.take k).flatMap sv ++ sv s := by
          rw [List.take_succ_eq_append_getElem hkS, List.flatMap_append, hs]
          simp
        have HTK := hide htk
        have HS := hide hs
        have HSV := hide hsv
        have HR := hide hr
        have HSZ := hide hsz
        clear hs hr htk hs32 hsv
        go_upto_region 5 with (first
          | ((with_reducible refine wpList_load_mid (op := ⟨some 14, _, _, _, _, _⟩) rfl 53 _ rfl b (o + k * 32) ?_ (sv s) _ HR.out Try.underlying53 rfl hsz ?_); exact rfl)
          | ((with_reducible refine wpList_store_new (op := ⟨none, .store 53 _ _, _, _, _, _⟩) wr 53 _ (sv s).toArray rfl _ _ rfl ?_ ?_ ?_ ?_ ?_ ?_); (exact rfl); (exact rfl); (simpa using hsz); (have := HSV.out; simp [this]); (simpa using sv_one s)))
        simp only [Act.put]
        obtain ⟨nW, hnW⟩ : ∃ n, n = wr.heap.size := ⟨_, rfl⟩
        rw [← hnW]
        refine wp_world (fun W5 => Ext NoS wr W5 ∧ Blk W5 nW 53 (sv s).toArray) ⟨(Ext.refl _ _).alloc _, by rw [hnW]; exact Blk.new _ _ _⟩ ?_
        rintro W5 ⟨hE5, hb5⟩
        have hrW := hb5.all
        have HB5 := hide (HB.out.ext hE5 (fun h => h))
        have HO5 := hide (own_ext HO.out hE5 (fun _ _ h => h))
        have HE5 := hide (HE.out.trans' hE5.of_no)
        have HW5 := hide (HW1.out.trans' hE5)
        have k0 := HB5.out.cell 0
        simp at k0
        have hsv := HSV.out
        have hfold : ∀ c0 : Array Value, c0.size = 32 → (sv s).zipIdx.foldl (fun cs (y : Value × Nat) => cs.setIfInBounds y.2 y.1) c0 = (sv s).toArray := fun c0 h0 => build_row _ _ (by rw [h0, hsv])
        have HSIZE := hide (show W.heap.size ≤ W5.heap.size from HE5.out.size)
        clear hnW hE5 hb5 HB HO HE HW1
        go_wp2_with (first
          | ((with_reducible refine wpList_load_mid (op := ⟨some 17, _, _, _, _, _⟩) rfl 53 _ rfl nW 0 ?_ (sv s) _ hrW Try.underlying53 rfl HSZ.out ?_); exact rfl)
          | (at_builtin; refine Hid.out ?_))
        refine hide ?_
        refine wpList_append_any rfl _ _ 33 rfl W.heap.size 77 _ 32 32 Try.underlying33 infoRSec rfl (by decide) vs' k ((S.take k).flatMap sv) rfl (own_ext HO5.out ((Ext.refl NoS W5).alloc _) (fun _ _ h => h)) (some ⟨W5.heap.size, 0, none⟩) 1 1 (sv s) rfl (by rw [hsv]) (fun _ => ⟨_, _, rfl, (Blk.new W5 _ _).all⟩) (sv_one s) (by unfold maxLen; omega) (by omega) (by have := HSIZE.out; simp; omega) ?_
        intro v' w6 ho6 hg6 _
        obtain ⟨A6, c6, rfl, _, _⟩ := own_slice ho6
        have hx6 := ext_push hg6
        have hb6 := HB5.out.ext hx6 (fun e => own_ne HO5.out HB5.out (by decide) e)
        have f6 := hb6.frozen 0
        have k6 := hb6.cell 0
        simp at k6
        rw [← HTK.out] at ho6
        have h7 := ext_setCell w6 g3 0 (.slice A6 (k + 1) c6)
        have HB7 := hide (show Blk (w6.setCell ⟨g3, 0, none⟩ (.slice A6 (k + 1) c6)) g3 36 #[.slice A6 (k + 1) c6, .slice none 0 0] by simpa using hb6.set 0 (.slice A6 (k + 1) c6))
        have HO7 := hide (own_ext ho6 h7 (fun g hg e => own_ne ho6 hb6 (by decide) (e ▸ hg)))
        have HE7 := hide (show Ext (fun x => x = g3) W (w6.setCell ⟨g3, 0, none⟩ (.slice A6 (k + 1) c6)) from (HE5.out.trans hx6 (fun i hi e => by have := own_base HO5.out e; omega)).trans' h7)
        clear ho6 hg6 hx6 hb6 h7 hfold
        go_wp2
        go_roundw
        case rel => exact ⟨k + 1, _, by go_num, hlt, HB7.out, HO7.out, HE7.out⟩
        case measure => simp [intOf]; omega
      · have hkn : k = n := by omega
        have hlti : ¬ (k : Int) < (n : Int) := by omega
        subst hkn
        go_wp2
        go_meet
        have := HO.out
        rw [HN.out, List.take_length, ← HN.out] at this
        exact ⟨_, HB.out, this, HE.out⟩
  case rest =>
    obtain ⟨vs1, hb1, ho1, hE1⟩ := hcut
    obtain ⟨W2, h2⟩ : ∃ x, x = wc := ⟨_, rfl⟩
    subst h2
    have HB4 := hide hb1
    have HO4 := hide ho1
    have HE4 := hide hE1
    have HD1 := hide (HB1.out.ext hE1 (fun e => by have := HG.out; have e : g1 = g3 := e; omega))
    have HD2 := hide (HB2.out.ext hE1 (fun e => by have := HG.out; have e : g2 = g3 := e; omega))
    have d1 := HD1.out.cell 1
    simp at d1
    clear hb1 ho1 hE1 HB1 HB2 HB3
    go_upto_block 2 with fail
    clear d1
    go_cut [] (fun w' => ∃ vp', Blk w' g3 36 #[vs1, vp'] ∧ w'.ownsRow W2.heap.size 79 33 vp' m (P.flatMap wv) ∧ Ext (fun x => x = g3) W2 w')
    case first =>
      go_upto_region 8 with fail
      go_loopw [25] (fun v25 wr => ∃ (k : Nat) (vp' : Value), v25 = .int .i64 k ∧ k ≤ m ∧ Blk wr g3 36 #[vs1, vp'] ∧ wr.ownsRow W2.heap.size 79 33 vp' k ((P.take k).flatMap wv) ∧ Ext (fun x => x = g3) W2 wr) (fun v _ => m - (intOf v).toNat)
      case atStart => exact ⟨0, _, rfl, Nat.zero_le _, HB4.out, World.ownsRow_nil _ _ _ _, Ext.refl _ _⟩
      case round =>
        obtain ⟨k, vp', rfl, hk, hb3, ho, hE⟩ := hrel
        have HB := hide hb3
        have HO := hide ho
        have HE := hide hE
        clear hb3 ho hE
        by_cases hlt : k < m
        · have hlti : (k : Int) < (m : Int) := by omega
          have hkS : k < P.length := by rw [← HM.out]; exact hlt
          have HW1 := hide (show Ext NoS w wr from HEW.out.trans (HE4.out.trans' HE.out) (fun i hi e => by have := HG.out; have e : i = g3 := e; omega))
          obtain ⟨b, o, rfl, hr⟩ := (HR2.out.ext HW1.out).elem (fun x hx => by rw [wv_length, HP32.out x hx]) (by decide) k hkS
          obtain ⟨x, hx⟩ : ∃ s, s = P[k] := ⟨_, rfl⟩
          rw [← hx] at hr
          have hx32 : x.2.length = 32 := by rw [hx]; exact HP32.out _ (List.getElem_mem _)
          have hwv : (wv x).length = 33 := by rw [wv_length, hx32]
          have hsv : (sv x.2).length = 32 := by rw [sv_length, hx32]
          have hsz : (Try.prog.info? 55).map (·.size) = some (wv x).length := by rw [sizeWr, hwv]
          have hsz2 : (Try.prog.info? 53).map (·.size) = some (sv x.2).length := by rw [sizeSec, hsv]
          have htk : (P.take (k + 1)).flatMap wv = (P.take k).flatMap wv ++ wv x := by
            rw [List.take_succ_eq_append_getElem hkS, List.flatMap_append, hx]
            simp
          have HTK := hide htk
          have HX := hide hx
          have HSV := hide hsv
          have HWV := hide hwv
          have HR := hide hr
          have HSZ := hide hsz
          have HSZ2 := hide hsz2
          clear hx hr htk hx32 hsv hwv hsz2
          go_upto_region 10 with (first
            | ((with_reducible refine wpList_load_mid (op := ⟨some 28, _, _, _, _, _⟩) rfl 55 _ rfl b (o + k * 33) ?_ (wv x) _ HR.out Try.underlying55 rfl hsz ?_); exact rfl)
            | ((with_reducible refine wpList_store_new (op := ⟨none, .store 55 _ _, _, _, _, _⟩) wr 55 _ (wv x).toArray rfl _ _ rfl ?_ ?_ ?_ ?_ ?_ ?_); (exact rfl); (exact rfl); (simpa using hsz); (have := HWV.out; simp [this]); (simpa using wv_one x)))
          simp only [Act.put]
          obtain ⟨nW, hnW⟩ : ∃ n, n = wr.heap.size := ⟨_, rfl⟩
          rw [← hnW]
          refine wp_world (fun W5 => Ext NoS wr W5 ∧ Blk W5 nW 55 (wv x).toArray) ⟨(Ext.refl _ _).alloc _, by rw [hnW]; exact Blk.new _ _ _⟩ ?_
          rintro W5 ⟨hE5, hb5⟩
          have hr0 : W5.cell? ⟨nW, 0, none⟩ = some (.int .i64 x.1) := by rw [hb5.cell]; rfl
          have hr1 : W5.rangeAt nW 1 (sv x.2) := fun j v hv => by
            rw [hb5.cell, Nat.add_comm]
            simpa [wv] using hv
          have HB5 := hide (HB.out.ext hE5 (fun h => h))
          have HO5 := hide (own_ext HO.out hE5 (fun _ _ h => h))
          have HE5 := hide (HE.out.trans' hE5.of_no)
          have k0 := HB5.out.cell 1
          simp at k0
          have hsv := HSV.out
          have hwl := HWV.out
          have hbuild := build_cells (.int .i64 x.1) (List.replicate 32 (.int .u8 0)) (sv x.2) (by simp [hsv])
          rw [show (Value.int IntKind.i64 x.1 :: sv x.2) = wv x from rfl] at hbuild
          simp only [List.replicate] at hbuild
          have hfold : ∀ c0 : Array Value, c0.size = 33 → (wv x).zipIdx.foldl (fun cs (y : Value × Nat) => cs.setIfInBounds y.2 y.1) c0 = (wv x).toArray := fun c0 h0 => build_row _ _ (by rw [h0, hwl])
          clear hnW hE5 hb5 HB HO HE HW1
          go_wp2_with (first
            | ((with_reducible refine wpList_load_mid (op := ⟨some 34, _, _, _, _, _⟩) rfl 53 _ rfl nW 1 ?_ (sv x.2) _ hr1 Try.underlying53 rfl HSZ2.out ?_); exact rfl)
            | (at_builtin; refine Hid.out ?_))
          refine hide ?_
          refine wpList_append_any rfl _ _ 34 rfl W2.heap.size 79 _ 33 40 Try.underlying34 infoRWr rfl (by decide) vp' k ((P.take k).flatMap wv) rfl (own_ext HO5.out ((Ext.refl NoS W5).alloc _) (fun _ _ h => h)) (some ⟨W5.heap.size, 0, none⟩) 1 1 (wv x) rfl (by rw [hwl]) (fun _ => ⟨_, _, rfl, (Blk.new W5 _ _).all⟩) (wv_one x) (by unfold maxLen; omega) (by omega) (by have := HE5.out.size; simp; omega) ?_
          intro v' w6 ho6 hg6 _
          obtain ⟨A6, c6, rfl, _, _⟩ := own_slice ho6
          have hx6 := ext_push hg6
          have hb6 := HB5.out.ext hx6 (fun e => own_ne HO5.out HB5.out (by decide) e)
          have f6 := hb6.frozen 1
          have k6 := hb6.cell 1
          simp at k6
          rw [← HTK.out] at ho6
          have h7 := ext_setCell w6 g3 1 (.slice A6 (k + 1) c6)
          have HB7 := hide (show Blk (w6.setCell ⟨g3, 1, none⟩ (.slice A6 (k + 1) c6)) g3 36 #[vs1, .slice A6 (k + 1) c6] by simpa using hb6.set 1 (.slice A6 (k + 1) c6))
          have HO7 := hide (own_ext ho6 h7 (fun g hg e => own_ne ho6 hb6 (by decide) (e ▸ hg)))
          have HE7 := hide (show Ext (fun x => x = g3) W2 (w6.setCell ⟨g3, 1, none⟩ (.slice A6 (k + 1) c6)) from (HE5.out.trans hx6 (fun i hi e => by have := own_base HO5.out e; omega)).trans' h7)
          clear ho6 hg6 hx6 hb6 h7 hfold hbuild
          go_wp2
          go_roundw
          case rel => exact ⟨k + 1, _, by go_num, hlt, HB7.out, HO7.out, HE7.out⟩
          case measure => simp [intOf]; omega
        · have hkn : k = m := by omega
          have hlti : ¬ (k : Int) < (m : Int) := by omega
          subst hkn
          go_wp2
          go_meet
          have := HO.out
          rw [HM.out, List.take_length, ← HM.out] at this
          exact ⟨_, HB.out, this, HE.out⟩
    case rest =>
      obtain ⟨vp1, hb5, ho5, hE5⟩ := hcut
      obtain ⟨W3, h3⟩ : ∃ x, x = wc := ⟨_, rfl⟩
      subst h3
      obtain ⟨A1', c1', rfl, _, _⟩ := own_slice HO4.out
      obtain ⟨A2', c2', rfl, _, _⟩ := own_slice ho5
      have hd2 := HD2.out.ext hE5 (fun e => by have := HG.out; have e : g2 = g3 := e; omega)
      have r0 := hb5.cell 0
      have r1 := hb5.cell 1
      have q0 := hd2.cell 0
      have q1 := hd2.cell 1
      have f0 := hd2.frozen 0
      have f1 := hd2.frozen 1
      simp at r0 r1 q0 q1
      have ho4 := own_ext HO4.out hE5 (fun g hg e => own_ne HO4.out HB4.out (by decide) (by have e : g = g3 := e; rw [← e]; exact hg))
      have hb6 := (hd2.set 0 (.slice A1' n c1')).set 1 (.slice A2' m c2')
      have hx6 := (ext_setCell W3 g2 0 (.slice A1' n c1')).trans' (ext_setCell _ g2 1 (.slice A2' m c2'))
      have hE3 : Ext NoS w W3 := HEW.out.trans (HE4.out.trans' hE5) (fun i hi e => by have := HG.out; have e : i = g3 := e; omega)
      have HFIN := hide (And.intro hb6 (And.intro hx6 (And.intro hE3 (And.intro ho4 (And.intro ho5 (And.intro hd2 HEW.out.size))))))
      clear hb6 hx6 hE3 ho4 ho5 hd2
      go_wp2
      obtain ⟨hb6, hx6, hE3, ho4, ho5, hd2, hsz⟩ := HFIN.out
      refine bodyPost_ret (results_cell_row rfl _ _ g2 36 #[.slice A1' n c1', .slice A2' m c2'] (0, 0) _ rfl (by have h := hb6; simp at h; exact h) Try.underlying36 rfl (by kernel_rfl)) rfl ?_
      refine ⟨_, _, rfl, ⟨?_, ?_, HS32.out, HP32.out⟩, hE3.trans hx6 (fun i hi e => by have := HG.out; have e : i = g2 := e; omega)⟩
      · rw [← HN.out]
        exact own_low (own_ext ho4 hx6 (fun g hg e => own_ne ho4 hd2 (by decide) (by have e : g = g2 := e; rw [← e]; exact hg))) hsz
      · rw [← HM.out]
        exact own_low (own_ext ho5 hx6 (fun g hg e => own_ne ho5 hd2 (by decide) (by have e : g = g2 := e; rw [← e]; exact hg))) (by have := HE4.out.size; omega)
end Go.Proofs.Ytmhhfhmpdpgmbaa
