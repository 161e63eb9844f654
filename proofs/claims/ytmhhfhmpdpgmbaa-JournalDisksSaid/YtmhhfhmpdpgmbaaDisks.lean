/- JournalDisks: the walk. -/
import Derived.Test.YtmhhfhmpdpgmbaaSameD
import Derived.Test.YtmhhfhmpdpgmbaaRefCrash
import Derived.Test.YtmhhfhmpdpgmbaaCopied
namespace Go.Proofs.Ytmhhfhmpdpgmbaa
open Go.RowKit Go.BigFrame

theorem own_lt3 {w : World} {B : Nat} {e : TypeId} {size n : Nat} {v : Value} {xs : List Value} (h : w.ownsRow B e size v n xs) {x : Nat} (hx : v.ownBlock = some x) : x < w.heap.size := by
  obtain ⟨cur, hc, _⟩ := own_blk h hx
  exact hc.lt
section
variable {W w14 : World} {A8 A14 : Option Addr} {c8 c14 g7 : Nat} {S : List Sec} {P : List (Int × Sec)}
theorem disks_fin1 (hx : Ext NoS W w14) (h8 : w14.ownsRow W.heap.size 53 32 (.slice A8 S.length c8) S.length (S.flatMap sv)) (h14 : w14.ownsRow W.heap.size 55 33 (.slice A14 P.length c14) P.length (P.flatMap wv)) (s32 : ∀ s ∈ S, s.length = 32) (p32 : ∀ x ∈ P, x.2.length = 32) :
    ∃ g vs' vp', Value.pointer (some ⟨w14.heap.size, 0, none⟩) = .pointer (some ⟨g, 0, none⟩) ∧ W.heap.size ≤ g ∧ DiskAt W.heap.size (w14.alloc (.cells #[.slice A8 S.length c8, .slice A14 P.length c14] 25)) g vs' vp' S P ∧ Ext NoS W (w14.alloc (.cells #[.slice A8 S.length c8, .slice A14 P.length c14] 25)) := by
  have h14' : Ext NoS w14 (w14.alloc (.cells #[.slice A8 S.length c8, .slice A14 P.length c14] 25)) := (Ext.refl _ _).alloc _
  exact ⟨w14.heap.size, _, _, rfl, hx.size, ⟨Blk.new _ _ _, own_ext h8 h14' (fun _ _ h => h), own_ext h14 h14' (fun _ _ h => h), s32, p32⟩, hx.trans' h14'⟩
theorem disks_fin2 (hx : Ext NoS W w14) (h8 : w14.ownsRow W.heap.size 53 32 (.slice A8 S.length c8) S.length (S.flatMap sv)) (h14 : w14.ownsRow W.heap.size 55 33 (.slice A14 P.length c14) P.length (P.flatMap wv)) (s32 : ∀ s ∈ S, s.length = 32) (p32 : ∀ x ∈ P, x.2.length = 32)
    (hb : Blk w14 g7 25 #[.slice none 0 0, .slice none 0 0]) (hg : W.heap.size ≤ g7) :
    ∃ g vs' vp', Value.pointer (some ⟨g7, 0, none⟩) = .pointer (some ⟨g, 0, none⟩) ∧ W.heap.size ≤ g ∧ DiskAt W.heap.size ((w14.setCell ⟨g7, 0, none⟩ (.slice A8 S.length c8)).setCell ⟨g7, 1, none⟩ (.slice A14 P.length c14)) g vs' vp' S P ∧ Ext NoS W ((w14.setCell ⟨g7, 0, none⟩ (.slice A8 S.length c8)).setCell ⟨g7, 1, none⟩ (.slice A14 P.length c14)) := by
  have hx6 := (ext_setCell w14 g7 0 (.slice A8 S.length c8)).trans' (ext_setCell _ g7 1 (.slice A14 P.length c14))
  refine ⟨g7, .slice A8 S.length c8, .slice A14 P.length c14, rfl, hg, ⟨by simpa using (hb.set 0 (.slice A8 S.length c8)).set 1 (.slice A14 P.length c14), own_ext h8 hx6 (fun g hg' e => own_ne h8 hb (by decide) (by have e : g = g7 := e; rw [← e]; exact hg')), own_ext h14 hx6 (fun g hg' e => own_ne h14 hb (by decide) (by have e : g = g7 := e; rw [← e]; exact hg')), s32, p32⟩, hx.trans hx6 (fun i hi e => by have e : i = g7 := e; omega)⟩
end

set_option maxRecDepth 100000 in
set_option maxHeartbeats 16000000 in
theorem disks_t (vs vp : Value) (S : List Sec) (P : List (Int × Sec)) (mask many : Nat) (w : World) (h1 : RowAt w vs S.length (S.flatMap sv)) (h2 : RowAt w vp P.length (P.flatMap wv)) (s32 : ∀ s ∈ S, s.length = 32) (p32 : ∀ x ∈ P, x.2.length = 32)
    (hS : S.length ≤ 9223372036854775807) (hP : P.length ≤ 9223372036854775807) (hmask : mask < 18446744073709551616) (hmany : many < 256) :
    Calls Try.prog 3 #[.agg #[vs, vp], .int .u64 mask, .int .u8 many] w fun e w' => e = .returned (.bool true) ∧ Ext NoS w w' := by
  have k1 := h1
  have k2 := h2
  obtain ⟨As, cs, rfl, _, _⟩ := h1
  obtain ⟨Ap, cp, rfl, _, _⟩ := h2
  have HR1 := hide k1
  have HR2 := hide k2
  have HS32 := hide s32
  have HP32 := hide p32
  clear k1 k2 s32 p32
  have HMASK := hide hmask
  clear hmask
  go_enter Try.func3, Try.ntmps3
  go_upto_region 1 with fail
  obtain ⟨g0, hg0⟩ : ∃ g, g = w.heap.size := ⟨_, rfl⟩
  rw [← hg0]
  refine wp_world (fun W => Ext NoS w W ∧ Blk W g0 25 #[.slice As S.length cs, .slice Ap P.length cp]) ⟨(Ext.refl _ _).alloc _, by rw [hg0]; exact Blk.new w _ _⟩ ?_
  rintro W ⟨hEW, hb0⟩
  have HW := hide hEW
  have HB0 := hide hb0
  have k0 := hb0.cell 0
  have k1 := hb0.cell 1
  simp at k0 k1
  clear hg0 hEW hb0
  by_cases hs2 : 200 < S.length
  · have hs2i : (200 : Int) < (S.length : Int) := by omega
    go_wp2_with (go_at_call 10; refine (awake_t _).mono ?_; rintro e w' ⟨rfl, hE⟩)
    go_ret
    exact ⟨rfl, HW.out.trans' hE⟩
  · by_cases hp2 : 200 < P.length
    · have hs2i : ¬ (200 : Int) < (S.length : Int) := by omega
      have hp2i : (200 : Int) < (P.length : Int) := by omega
      go_wp2_with (go_at_call 10; refine (awake_t _).mono ?_; rintro e w' ⟨rfl, hE⟩)
      go_ret
      exact ⟨rfl, HW.out.trans' hE⟩
    · have hs2i : ¬ (200 : Int) < (S.length : Int) := by omega
      have hp2i : ¬ (200 : Int) < (P.length : Int) := by omega
      have HSL := hide (flat_length sv 32 S (fun x hx => by rw [sv_length, HS32.out x hx]))
      have HPL := hide (flat_length wv 33 P (fun x hx => by rw [wv_length, HP32.out x hx]))
      have hsr := fun (W : World) (hx : Ext NoS w W) (hn : S.flatMap sv ≠ []) => show ∃ b o, As = some ⟨b, o, none⟩ ∧ W.rangeAt b o (S.flatMap sv) by
        obtain ⟨A', c', hv, _, h⟩ := HR1.out
        injection hv with hA _ _
        subst hA
        obtain ⟨b, o, h1, h2⟩ := h hn
        exact ⟨b, o, h1, range_ext h2 hx (fun h => h)⟩
      have hpr := fun (W : World) (hx : Ext NoS w W) (hn : P.flatMap wv ≠ []) => show ∃ b o, Ap = some ⟨b, o, none⟩ ∧ W.rangeAt b o (P.flatMap wv) by
        obtain ⟨A', c', hv, _, h⟩ := HR2.out
        injection hv with hA _ _
        subst hA
        obtain ⟨b, o, h1, h2⟩ := h hn
        exact ⟨b, o, h1, range_ext h2 hx (fun h => h)⟩
      have HSR := hide hsr
      have HPR := hide hpr
      clear hsr hpr
      go_upto_region 3 with fail
      clear hs2i hp2i
      go_cut [7] (fun v w' => ∃ g vs' vp', v = .pointer (some ⟨g, 0, none⟩) ∧ W.heap.size ≤ g ∧ DiskAt W.heap.size w' g vs' vp' S P ∧ Ext NoS W w')
      case first =>
        have keepS : ∀ w', Ext NoS W w' → Ext NoS W w' ∧ w'.cell? ⟨g0, 0, none⟩ = some (.slice As S.length cs) ∧ w'.cell? ⟨g0, 1, none⟩ = some (.slice Ap P.length cp) := fun w' h => ⟨h, h.cell k0 (fun h => h), h.cell k1 (fun h => h)⟩
        go_region_held3 (fun w' => Ext NoS W w' ∧ w'.cell? ⟨g0, 0, none⟩ = some (.slice As S.length cs) ∧ w'.cell? ⟨g0, 1, none⟩ = some (.slice Ap P.length cp))
          (first | exact keepS _ (Ext.refl _ _).drew | exact keepS _ (by assumption) | exact keepS _ ((Ext.refl _ _).drew.alloc _) | exact keepS _ (((Ext.refl _ _).drew.alloc _).alloc _) | exact keepS _ ((((Ext.refl _ _).drew.alloc _).alloc _).alloc _) | exact keepS _ (Ext.alloc (by assumption) _) | exact keepS _ (Ext.alloc (Ext.alloc (by assumption) _) _) | exact keepS _ (Ext.alloc (Ext.alloc (Ext.alloc (by assumption) _) _) _) | (refine keepS _ ?_; repeat (first | exact Ext.refl _ _ | assumption | exact (‹Ext NoS W _ ∧ _›).1 | refine Ext.drew ?_ | refine Ext.alloc ?_ _ | refine Ext.setCell ?_ (.inr (by first | (simp; done) | (have h1 := HX8.out.size; have h2 := HX14.out.size; simp at h1 h2 ⊢; omega))) _)))
          (first
            | (refine step_append_new rfl _ _ 22 rfl 53 _ 32 32 Try.underlying22 infoSec rfl (by decide) _ rfl W.heap.size (by first | exact Blk.new' _ _ (by simp) | exact (Blk.new' _ _ (by simp)).alloc _ | exact ((Blk.new' _ _ (by simp)).alloc _).alloc _ | exact HB3.out | (simpa using HB3.out) | (simpa using Blk.alloc HB3.out _) | (simpa using Blk.alloc (Blk.alloc HB3.out _) _)) (by first | exact Nat.le_refl _ | omega | (simp; done) | (simp; omega) | (have := HX14.out.size; simp at this ⊢; omega)) As S.length cs (S.flatMap sv) rfl HSL.out (HSR.out _ (HW.out.trans' (‹Ext NoS W _ ∧ _›).1)) (secs_one S) (by unfold maxLen; omega) (by omega) ?_; intro A8 c8 w8 hb3 ho8 hg8; have hx8 : Ext NoS W w8 := (‹Ext NoS W _ ∧ _›).1.grown hg8 (fun g hg => .inr (own_base (own_at_empty (size := 32) hb3 (by first | exact Nat.le_refl _ | omega | (simp; done) | (simp; omega) | (have := HX14.out.size; simp at this ⊢; omega))) hg)); (try (have HB9 : Hid (Blk w8 _ 55 #[]) := hide (Blk.grown' (by first | exact Blk.new _ _ _ | exact (Blk.new _ _ _).alloc _ | exact ((Blk.new _ _ _).alloc _).alloc _) hg8 hb3 (by decide)))); (try (have HB7 : Hid (Blk w8 _ 25 #[.slice none 0 0, .slice none 0 0]) := hide (Blk.grown' (by first | exact Blk.new _ _ _ | exact (Blk.new _ _ _).alloc _ | exact ((Blk.new _ _ _).alloc _).alloc _) hg8 hb3 (by decide)))); have HO8 := hide ho8; have HX8 := hide hx8; clear hb3 ho8 hg8)
            | (refine step_append_new rfl _ _ 23 rfl 55 _ 33 40 Try.underlying23 infoWr rfl (by decide) _ rfl W.heap.size (by first | exact Blk.new' _ _ (by simp) | exact (Blk.new' _ _ (by simp)).alloc _ | exact ((Blk.new' _ _ (by simp)).alloc _).alloc _ | exact HB9.out | (simpa using HB9.out) | (simpa using Blk.alloc HB9.out _) | (simpa using Blk.alloc (Blk.alloc HB9.out _) _)) (by first | exact Nat.le_refl _ | omega | (simp; done) | (simp; omega) | (have := HX8.out.size; simp at this ⊢; omega)) Ap P.length cp (P.flatMap wv) rfl HPL.out (HPR.out _ (HW.out.trans' (‹Ext NoS W _ ∧ _›).1)) (writes_one P) (by unfold maxLen; omega) (by omega) ?_; intro A14 c14 w14 hb9 ho14 hg14; have hx14 : Ext NoS W w14 := (‹Ext NoS W _ ∧ _›).1.grown hg14 (fun g hg => .inr (own_base (own_at_empty (size := 33) hb9 (by first | exact Nat.le_refl _ | omega | (simp; done) | (simp; omega) | (have := HX8.out.size; simp at this ⊢; omega))) hg)); (first | (have HB7b : Hid (Blk w14 _ 25 #[.slice none 0 0, .slice none 0 0]) := hide (Blk.grown' (by first | exact Blk.new _ _ _ | exact (Blk.new _ _ _).alloc _ | exact ((Blk.new _ _ _).alloc _).alloc _) hg14 hb9 (by decide))) | (have HB7b := hide (Blk.grown' HB7.out hg14 hb9 (by decide))) | (have HB7b := hide (Blk.grown' (HB7.out.alloc _) hg14 hb9 (by decide))) | skip); (try (have y0 := HB7b.out.cell 0; have y1 := HB7b.out.cell 1; have z0 := HB7b.out.frozen 0; have z1 := HB7b.out.frozen 1; simp at y0 y1 z0 z1)); (first | (have HO8b := hide (own_grown' HO8.out hg14 hb9 (by decide))) | (have HO8b := hide (own_grown' (own_ext HO8.out ((Ext.refl NoS _).alloc _) (fun _ _ h => h)) hg14 hb9 (by decide))) | (have HO8b := hide (own_grown' (own_ext HO8.out (((Ext.refl NoS _).alloc _).alloc _) (fun _ _ h => h)) hg14 hb9 (by decide)))); have HO14 := hide ho14; have HX14 := hide hx14; clear hb9 ho14 hg14))
        all_goals
          go_wp2_with fail
          go_meet
          first
            | exact disks_fin1 HX14.out HO8b.out HO14.out HS32.out HP32.out
            | exact disks_fin2 HX14.out HO8b.out HO14.out HS32.out HP32.out (by simpa using HB7b.out) (by first | exact Nat.le_refl _ | omega | (have h1 := HX8.out.size; simp at h1 ⊢; omega))
      case rest =>
        obtain ⟨ga, vsa, vpa, rfl, hga, hda, hE2⟩ := hcut
        obtain ⟨W2, h2⟩ : ∃ x, x = wc := ⟨_, rfl⟩
        subst h2
        have HDA := hide hda
        have HE2 := hide hE2
        have HWW := hide HW.out
        have k0 := hE2.cell k0 (fun h => h)
        have k1 := hE2.cell k1 (fun h => h)
        have HW := hide (HWW.out.trans' hE2)
        clear hda hE2
        go_upto_region 4 with fail
        go_cut [8] (fun v w' => ∃ g vs' vp', v = .pointer (some ⟨g, 0, none⟩) ∧ W2.heap.size ≤ g ∧ DiskAt W2.heap.size w' g vs' vp' S P ∧ Ext NoS W2 w')
        case first =>
          have keepS : ∀ w', Ext NoS W2 w' → Ext NoS W2 w' ∧ w'.cell? ⟨g0, 0, none⟩ = some (.slice As S.length cs) ∧ w'.cell? ⟨g0, 1, none⟩ = some (.slice Ap P.length cp) := fun w' h => ⟨h, h.cell k0 (fun h => h), h.cell k1 (fun h => h)⟩
          go_region_held3 (fun w' => Ext NoS W2 w' ∧ w'.cell? ⟨g0, 0, none⟩ = some (.slice As S.length cs) ∧ w'.cell? ⟨g0, 1, none⟩ = some (.slice Ap P.length cp))
            (first | exact keepS _ (Ext.refl _ _).drew | exact keepS _ (by assumption) | exact keepS _ ((Ext.refl _ _).drew.alloc _) | exact keepS _ (((Ext.refl _ _).drew.alloc _).alloc _) | exact keepS _ ((((Ext.refl _ _).drew.alloc _).alloc _).alloc _) | exact keepS _ (Ext.alloc (by assumption) _) | exact keepS _ (Ext.alloc (Ext.alloc (by assumption) _) _) | exact keepS _ (Ext.alloc (Ext.alloc (Ext.alloc (by assumption) _) _) _) | (refine keepS _ ?_; repeat (first | exact Ext.refl _ _ | assumption | exact (‹Ext NoS W2 _ ∧ _›).1 | refine Ext.drew ?_ | refine Ext.alloc ?_ _ | refine Ext.setCell ?_ (.inr (by first | (simp; done) | (have h1 := HX8.out.size; have h2 := HX14.out.size; simp at h1 h2 ⊢; omega))) _)))
            (first
              | (refine step_append_new rfl _ _ 22 rfl 53 _ 32 32 Try.underlying22 infoSec rfl (by decide) _ rfl W2.heap.size (by first | exact Blk.new' _ _ (by simp) | exact (Blk.new' _ _ (by simp)).alloc _ | exact ((Blk.new' _ _ (by simp)).alloc _).alloc _ | exact HB3.out | (simpa using HB3.out) | (simpa using Blk.alloc HB3.out _) | (simpa using Blk.alloc (Blk.alloc HB3.out _) _)) (by first | exact Nat.le_refl _ | omega | (simp; done) | (simp; omega) | (have := HX14.out.size; simp at this ⊢; omega)) As S.length cs (S.flatMap sv) rfl HSL.out (HSR.out _ (HW.out.trans' (‹Ext NoS W2 _ ∧ _›).1)) (secs_one S) (by unfold maxLen; omega) (by omega) ?_; intro A8 c8 w8 hb3 ho8 hg8; have hx8 : Ext NoS W2 w8 := (‹Ext NoS W2 _ ∧ _›).1.grown hg8 (fun g hg => .inr (own_base (own_at_empty (size := 32) hb3 (by first | exact Nat.le_refl _ | omega | (simp; done) | (simp; omega) | (have := HX14.out.size; simp at this ⊢; omega))) hg)); (try (have HB9 : Hid (Blk w8 _ 55 #[]) := hide (Blk.grown' (by first | exact Blk.new _ _ _ | exact (Blk.new _ _ _).alloc _ | exact ((Blk.new _ _ _).alloc _).alloc _) hg8 hb3 (by decide)))); (try (have HB7 : Hid (Blk w8 _ 25 #[.slice none 0 0, .slice none 0 0]) := hide (Blk.grown' (by first | exact Blk.new _ _ _ | exact (Blk.new _ _ _).alloc _ | exact ((Blk.new _ _ _).alloc _).alloc _) hg8 hb3 (by decide)))); have HO8 := hide ho8; have HX8 := hide hx8; clear hb3 ho8 hg8)
              | (refine step_append_new rfl _ _ 23 rfl 55 _ 33 40 Try.underlying23 infoWr rfl (by decide) _ rfl W2.heap.size (by first | exact Blk.new' _ _ (by simp) | exact (Blk.new' _ _ (by simp)).alloc _ | exact ((Blk.new' _ _ (by simp)).alloc _).alloc _ | exact HB9.out | (simpa using HB9.out) | (simpa using Blk.alloc HB9.out _) | (simpa using Blk.alloc (Blk.alloc HB9.out _) _)) (by first | exact Nat.le_refl _ | omega | (simp; done) | (simp; omega) | (have := HX8.out.size; simp at this ⊢; omega)) Ap P.length cp (P.flatMap wv) rfl HPL.out (HPR.out _ (HW.out.trans' (‹Ext NoS W2 _ ∧ _›).1)) (writes_one P) (by unfold maxLen; omega) (by omega) ?_; intro A14 c14 w14 hb9 ho14 hg14; have hx14 : Ext NoS W2 w14 := (‹Ext NoS W2 _ ∧ _›).1.grown hg14 (fun g hg => .inr (own_base (own_at_empty (size := 33) hb9 (by first | exact Nat.le_refl _ | omega | (simp; done) | (simp; omega) | (have := HX8.out.size; simp at this ⊢; omega))) hg)); (first | (have HB7b : Hid (Blk w14 _ 25 #[.slice none 0 0, .slice none 0 0]) := hide (Blk.grown' (by first | exact Blk.new _ _ _ | exact (Blk.new _ _ _).alloc _ | exact ((Blk.new _ _ _).alloc _).alloc _) hg14 hb9 (by decide))) | (have HB7b := hide (Blk.grown' HB7.out hg14 hb9 (by decide))) | (have HB7b := hide (Blk.grown' (HB7.out.alloc _) hg14 hb9 (by decide))) | skip); (try (have y0 := HB7b.out.cell 0; have y1 := HB7b.out.cell 1; have z0 := HB7b.out.frozen 0; have z1 := HB7b.out.frozen 1; simp at y0 y1 z0 z1)); (first | (have HO8b := hide (own_grown' HO8.out hg14 hb9 (by decide))) | (have HO8b := hide (own_grown' (own_ext HO8.out ((Ext.refl NoS _).alloc _) (fun _ _ h => h)) hg14 hb9 (by decide))) | (have HO8b := hide (own_grown' (own_ext HO8.out (((Ext.refl NoS _).alloc _).alloc _) (fun _ _ h => h)) hg14 hb9 (by decide)))); have HO14 := hide ho14; have HX14 := hide hx14; clear hb9 ho14 hg14))
          all_goals
            go_wp2_with fail
            go_meet
            first
              | exact disks_fin1 HX14.out HO8b.out HO14.out HS32.out HP32.out
              | exact disks_fin2 HX14.out HO8b.out HO14.out HS32.out HP32.out (by simpa using HB7b.out) (by first | exact Nat.le_refl _ | omega | (have h1 := HX8.out.size; simp at h1 ⊢; omega))
        case rest =>
          obtain ⟨gb, vsb, vpb, rfl, hgb, hdb, hE3⟩ := hcut
          obtain ⟨W3, h3⟩ : ∃ x, x = wc := ⟨_, rfl⟩
          subst h3
          have HDB := hide hdb
          have HGA := hide (And.intro HDA.out.blk.lt (fun (x : Nat) (hx : vsa.ownBlock = some x) => own_lt3 HDA.out.safe hx))
          have HDA3 := hide (HDA.out.no hE3)
          have HB3 := hide (HB0.out.ext (HE2.out.trans' hE3) (fun h => h))
          have HW3 := hide (HW.out.trans' hE3)
          have HWZ := hide HWW.out.size
          have HG0 := hide HB0.out.lt
          clear hdb hE3 HDA HE2 k0 k1 HB0 HW HWW HSR HPR HSL HPL
          have hlo := fun W' => lost_t mask many W' HMASK.out (by omega)
          have HLO := hide hlo
          clear hlo
          go_upto_region 6 with (first
            | (go_at_call 11; have hprev := HL1.out; refine (HLO.out _).mono ?_; rintro e w5 ⟨v5, rfl, ho5, hE5⟩; obtain ⟨A5, c5, rfl, _, _⟩ := own_slice ho5; have HL2 := hide ho5; have HL1b := hide (own_ext hprev hE5 (fun _ _ h => h)); have HE5 := hide (HE4.out.trans' hE5); have HE4b := hide HE4.out.size; clear hprev ho5 hE5)
            | (go_at_call 11; refine (HLO.out _).mono ?_; rintro e w4 ⟨v4, rfl, ho4, hE4⟩; obtain ⟨A4, c4, rfl, _, _⟩ := own_slice ho4; have HL1 := hide ho4; have HE4 := hide hE4; clear ho4 hE4))
          have hda5 := HDA3.out.no HE5.out
          have hcr := crash_t W.heap.size w5 ga _ _ _ S P (lostL mask many) hda5 (bools_own (lostL_length _ _) HL1b.out hda5) (by omega) (by omega) (by rw [lostL_length]; omega)
          have HCR := hide hcr
          clear hda5 hcr
          go_upto_region 7 with (go_at_call 12; refine HCR.out.mono ?_; rintro e w6 ⟨rfl, hda6, hE6⟩)
          clear HCR
          have hT6 : ∀ x, DiskS ga vsa x → W.heap.size ≤ x ∧ x < W2.heap.size := fun x e => by
            rcases e with e | e
            · rw [e]; exact ⟨hga, HGA.out.1⟩
            · exact ⟨own_base HDA3.out.safe e, HGA.out.2 x e⟩
          have hdb6 := (HDB.out.no HE5.out).ext hE6 (fun e => by have := hT6 _ e; omega) (fun x hx e => by have := own_base HDB.out.safe hx; have := hT6 _ e; omega) (fun x hx e => by have := own_base HDB.out.pend hx; have := hT6 _ e; omega)
          have HDA6 := hide hda6
          have HDB6 := hide hdb6
          have hsy := sync_t W2.heap.size w6 gb _ _ S P hdb6 (by omega) (by omega)
          have HSY := hide hsy
          have HE6 := hide hE6
          have HT6 := hide hT6
          clear hda6 hdb6 hsy hE6 hT6
          go_upto_region 8 with (go_at_call 13; refine HSY.out.mono ?_; rintro e w7 ⟨rfl, hdb7, hE7⟩)
          clear HSY
          have hT7 : ∀ x, DiskS gb vsb x → W2.heap.size ≤ x ∧ x < W3.heap.size := fun x e => by
            rcases e with e | e
            · rw [e]; exact ⟨hgb, HDB.out.blk.lt⟩
            · exact ⟨own_base HDB.out.safe e, own_lt3 HDB.out.safe e⟩
          have hW23 : W2.heap.size ≤ W3.heap.size := by have := HDB.out.blk.lt; omega
          have hW12 : W.heap.size ≤ W2.heap.size := by have := HGA.out.1; omega
          have hda7 := HDA6.out.ext hE7 (fun e => by have := hT7 _ e; have := HGA.out.1; omega) (fun x hx e => by have := HGA.out.2 x hx; have := hT7 _ e; omega) (fun x hx e => by simp [Value.ownBlock] at hx)
          have hTT : ∀ x, (DiskS ga vsa x ∨ DiskS gb vsb x) → W.heap.size ≤ x ∧ x < W3.heap.size := fun x e => by
            rcases e with e | e
            · have := HT6.out x e; omega
            · have := hT7 x e; omega
          have hE57 : Ext (fun x => DiskS ga vsa x ∨ DiskS gb vsb x) w5 w7 := (HE6.out.mono (fun _ _ e => Or.inl e)).trans (hE7.mono (fun _ _ e => Or.inr e)) (fun _ _ e => e)
          have hB7 := (HB3.out.ext HE5.out (fun h => h)).ext hE57 (fun e => by have := hTT _ e; have := HG0.out; omega)
          have h35 := HE5.out.size
          have hl1 := own_ext HL1b.out hE57 (fun g hg e => by have := own_base HL1b.out hg; have := hTT _ e; omega)
          have hl2 := own_ext HL2.out hE57 (fun g hg e => by have := own_base HL2.out hg; have := hTT _ e; have := HE4b.out; omega)
          have hX7 : Ext NoS w w7 := (HW3.out.trans' HE5.out).trans hE57 (fun i hi e => by have := hTT _ e; have := HWZ.out; omega)
          have HDA7 := hide hda7
          have HDB7 := hide hdb7
          have HB7 := hide hB7
          clear HL1
          have HL1 := hide hl1
          have HL2 := hide hl2
          have HX7 := hide hX7
          clear hT7 hda7 hdb7 hTT hE57 hB7 hl1 hl2 hX7 hE7 HDA6 HDB6 HE6 HT6 HL1b HB3 HDA3 HDB HE5 HW3 h35 hW23 hW12
          go_upto_block 0 with fail
          go_cut [] (fun w' => Ext NoS w7 w')
          case first =>
            go_upto_region 9 with fail
            go_loopw [55] (fun v w' => ∃ i : Nat, v = .int .i64 i ∧ i ≤ many ∧ Ext NoS w7 w') (fun v _ => many - (intOf v).toNat)
            case atStart => exact ⟨0, rfl, Nat.zero_le _, Ext.refl _ _⟩
            case round =>
              obtain ⟨i, rfl, hi, hE⟩ := hrel
              have HE := hide hE
              by_cases hlt : i < many
              · have hlti : (i : Int) < (many : Int) := by omega
                have hll := lostL_length mask many
                have hne : (lostL mask many).map Value.bool ≠ [] := by intro h; have := congrArg List.length h; simp [hll] at this; omega
                obtain ⟨b1, o1, rfl, hr1⟩ := own_src (own_ext HL1.out hE (fun _ _ h => h)) hne
                obtain ⟨b2, o2, rfl, hr2⟩ := own_src (own_ext HL2.out hE (fun _ _ h => h)) hne
                have e1 : wr.cell? ⟨b1, o1 + i, none⟩ = some (.bool ((lostL mask many)[i]'(by omega))) := hr1 i _ (by simp [hll, hlt])
                have e2 : wr.cell? ⟨b2, o2 + i, none⟩ = some (.bool ((lostL mask many)[i]'(by omega))) := hr2 i _ (by simp [hll, hlt])
                obtain ⟨x, hx⟩ : ∃ x, x = (lostL mask many)[i]'(by omega) := ⟨_, rfl⟩
                rw [← hx] at e1 e2
                clear hE hx hr1 hr2 hne hll
                go_upto_region 11 with fail
                go_quiet (fail)
                go_wp2
                go_roundw
                case rel => exact ⟨i + 1, by go_num, hlt, HE.out.drewN _⟩
                case measure => simp [intOf]; omega
              · have hin : i = many := by omega
                subst hin
                clear hE
                go_wp2
                go_meet
                exact HE.out
          case rest =>
            obtain ⟨w8, h8⟩ : ∃ x, x = wc := ⟨_, rfl⟩
            subst h8
            have HDA8 := hide (HDA7.out.no hcut)
            have HDB8 := hide (HDB7.out.no hcut)
            have HB8 := hide (HB7.out.ext hcut (fun h => h))
            have HL8 := hide (own_ext HL2.out hcut (fun _ _ h => h))
            have HX8 := hide (HX7.out.trans' hcut)
            clear hcut HDA7 HDB7 HB7 HL1 HL2 HX7
            go_upto_region 17 with (first
              | (go_at_call 12; refine (crash_nil_t _ _).mono ?_; rintro e w9 ⟨rfl, rfl⟩)
              | (go_at_call 13; refine (sync_nil_t _).mono ?_; rintro e w9 ⟨rfl, rfl⟩))
            have k0 := HB8.out.cell 0
            have k1 := HB8.out.cell 1
            simp at k0 k1
            have hnil : ∀ W' : World, RowAt W' (.slice none 0 0) ([] : List (Int × Sec)).length (([] : List (Int × Sec)).flatMap wv) := fun _ => ⟨none, 0, rfl, Nat.le_refl _, fun h => absurd rfl h⟩
            have hgv : ∀ W', Ext NoS w8 W' → Calls Try.prog 16 #[.agg #[.slice As S.length cs, .slice Ap P.length cp]] W' _ := fun W' h => given_t _ _ S P W' (HR1.out.ext (HX8.out.trans' h)) (HR2.out.ext (HX8.out.trans' h)) HS32.out HP32.out (by omega) (by omega)
            have hrc : ∀ (W' W2' : World) (vl a b : Value) (B : Nat) (L : List Bool), RefAt B W' a b S P → Bools (fun _ => True) W' vl L → L.length ≤ 255 → Calls Try.prog 15 #[.agg #[a, b], vl] W' _ := fun W' _ vl a b B L h hb hl => refCrash_t a b vl S P L W' (RowAt.of_own h.safe) (RowAt.of_own h.pend) hb HS32.out HP32.out (by omega) (by omega) (by omega)
            have hsm : ∀ (W' : World) (m B g : Nat) (a b : Value) (L : List Bool), DiskAt m W' g a (.slice none 0 0) (crash S P L) [] → W'.ownsRow B 77 32 b S.length ((crash S P L).flatMap sv) → Calls Try.prog 14 #[.pointer (some ⟨g, 0, none⟩), .agg #[b, .slice none 0 0]] W' fun e w' => e = .returned (.bool true) ∧ Ext NoS W' w' := fun W' m B g a b L h1 h2 => same_t g a (.slice none 0 0) b (.slice none 0 0) (crash S P L) [] W' h1.blk (RowAt.of_own h1.safe) (hnil W') (by rw [crash_length]; exact RowAt.of_own h2) (hnil W') h1.s32 h1.p32 (by rw [crash_length]; omega) (by simp)
            have hbl : ∀ W', Ext NoS w8 W' → Bools (fun _ => True) W' (.slice A5 many c5) (lostL mask many) := fun W' h => by
              obtain ⟨A, c, he, hc, hr⟩ := RowAt.of_own (own_ext HL8.out h (fun _ _ h => h))
              injection he with h1 h2 h3
              subst h1; subst h3
              exact ⟨A5, c5, by rw [lostL_length], by rw [lostL_length]; exact hc, fun hn => by obtain ⟨b, o, h1, h2⟩ := hr (by simpa using hn); exact ⟨b, o, h1, trivial, h2⟩⟩
            have hbn : ∀ W' : World, Bools (fun _ => True) W' (.slice none 0 0) [] := fun W' => ⟨none, 0, rfl, Nat.le_refl _, fun h => absurd rfl h⟩
            have HGV := hide hgv
            have HRC := hide hrc
            have HSM := hide hsm
            have HBL := hide hbl
            have HBN := hide hbn
            clear hnil hgv hrc hsm hbl hbn
            go_wp2_with (first
              | (go_at_call 10; refine (awake_t _).mono ?_; rintro e w15 ⟨rfl, hE15⟩)
              | (go_at_call 16; have hprev := HE11.out; refine (HGV.out _ hprev).mono ?_; rintro e w12 ⟨v12, p12, rfl, hr12, hE12⟩; have HR12 := hide hr12; have HE12 := hide (hprev.trans' hE12); clear hr12 hE12 hprev)
              | (go_at_call 15; have hprev := HE12.out; refine (HRC.out _ w8 _ _ _ _ _ HR12.out (HBN.out _) (by simp)).mono ?_; rintro e w13 ⟨v13, rfl, ho13, hE13⟩; have HO13 := hide ho13; have HE13 := hide (hprev.trans' hE13); clear ho13 hE13 hprev)
              | (go_at_call 14; have hprev := HE13.out; refine (HSM.out _ _ _ _ _ _ _ (HDB8.out.no hprev) HO13.out).mono ?_; rintro e w14 ⟨rfl, hE14⟩; have HE14 := hide (hprev.trans' hE14); clear hE14 hprev)
              | (go_at_call 16; refine (HGV.out _ (Ext.refl _ _)).mono ?_; rintro e w9 ⟨v9, p9, rfl, hr9, hE9⟩; have HR9 := hide hr9; have HE9 := hide hE9; clear hr9 hE9)
              | (go_at_call 15; refine (HRC.out _ w8 _ _ _ _ _ HR9.out (HBL.out _ HE9.out) (by rw [lostL_length]; omega)).mono ?_; rintro e w10 ⟨v10, rfl, ho10, hE10⟩; have HO10 := hide ho10; have HE10 := hide (HE9.out.trans' hE10); clear ho10 hE10)
              | (go_at_call 14; refine (HSM.out _ _ _ _ _ _ _ (HDA8.out.no HE10.out) HO10.out).mono ?_; rintro e w11 ⟨rfl, hE11⟩; have HE11 := hide (HE10.out.trans' hE11); clear hE11; have k2 := (HB8.out.ext HE11.out (fun h => h)).cell 0; have k3 := (HB8.out.ext HE11.out (fun h => h)).cell 1; simp at k2 k3))
            go_ret
            exact ⟨rfl, HX8.out.trans' (HE14.out.trans' hE15)⟩
end Go.Proofs.Ytmhhfhmpdpgmbaa
