/- Checkpoint. -/
import Derived.Test.YtmhhfhmpdpgmbaaJour2
namespace Go.Proofs.Ytmhhfhmpdpgmbaa
open Go.RowKit

theorem JAt.synced {B : Nat} {w w' : World} {j d : Nat} {vs vp vp' vr : Value} {S S' : List Sec} {P P' : List (Int × Sec)} {ar ep li en : Nat} {recs : List (List UInt8)} (h : JAt B w j d vs vp vr S P ar ep li en recs)
    (he : Ext (DiskS d vs) w w') (hd : DiskAt B w' d vs vp' S' P') : JAt B w' j d vs vp' vr S' P' ar ep li en recs := by
  have hne : ∀ (x : Nat) t cs, BB w x t cs → t ≠ 25 → t ≠ 53 → ¬ DiskS d vs x := fun x t cs hb h1 h2 h' => by
    rcases h' with h' | h'
    · exact (h' ▸ hb).ne_ h.disk.blk h1 rfl
    · exact own_neB h.disk.safe hb (fun e => h2 e.symm) h'
  refine ⟨h.jb.ext he (hne _ _ _ h.jb.bb (by decide) (by decide)), hd, h.recs.ext he (fun g hg => ?_) (fun b _ ⟨cs, hb⟩ => hne _ _ _ hb (by decide) (by decide))⟩
  obtain ⟨vals, ho, _, _⟩ := h.recs
  obtain ⟨cur, hc, _⟩ := own_blk ho hg
  exact hne _ _ _ hc.bb (by decide) (by decide)

def CheckpointPost (B : Nat) (w : World) (j d : Nat) (vs vp vr : Value) (S : List Sec) (P : List (Int × Sec)) (ar ep li : Nat) (b : List UInt8) (e : Ending) (w' : World) : Prop :=
  if 4000 < b.length then e = .returned (.int .i64 3) ∧ Ext NoS w w'
  else if S.length / 2 < needN b.length then e = .returned (.int .i64 4) ∧ Ext NoS w w'
  else if ep = 1073741824 then e = .returned (.int .i64 420) ∧ Ext NoS w w'
  else e = .returned (.int .i64 0) ∧ (∃ vr', JAt B w' j d vs (.slice none 0 0) vr' (crash S (P ++ recW ((1 - ar) * (S.length / 2) : Nat) (ep + 1) li 0 b) []) [] (1 - ar) (ep + 1) li (needN b.length) [b] ∧ OwnFr w (.slice none 0 0) vr') ∧ Ext (JS j d vs vp vr) w w'

set_option maxRecDepth 100000 in
set_option maxHeartbeats 4000000 in
theorem checkpoint_t (B : Nat) (w : World) (j d : Nat) (vs vp vr v : Value) (S : List Sec) (P : List (Int × Sec)) (ar ep li en : Nat) (recs : List (List UInt8)) (b : List UInt8) (h : JAt B w j d vs vp vr S P ar ep li en recs) (hb : Bytes (fun x => ByteBlk w x) w v b)
    (hS : S.length ≤ 100000) (hP : P.length ≤ 500000) (hB : B ≤ w.heap.size) (har : ar ≤ 1) (hep : ep ≤ 1073741824) (hli : li < 4294967296) (hbl : b.length ≤ 1000000) :
    Calls Try.prog 19 #[.pointer (some ⟨j, 0, none⟩), v] w (CheckpointPost B w j d vs vp vr S P ar ep li b) := by
  have c0 := h.jb.cell 0
  have c1 := h.jb.cell 1
  have c2 := h.jb.cell 2
  have k0 := h.disk.blk.cell 0
  simp at c0 c1 c2 k0
  have f1 := h.jb.frozen 1
  have f2 := h.jb.frozen 2
  obtain ⟨As, cs, rfl, hcs, _⟩ := own_slice h.disk.safe
  obtain ⟨Ab, cb, rfl, hcb, hrb⟩ := hb
  have hb : Bytes (fun x => ByteBlk w x) w (.slice Ab b.length cb) b := ⟨Ab, cb, rfl, hcb, hrb⟩
  clear hrb
  have HJ := hide h; clear h
  have HB := hide hb; clear hb
  obtain ⟨half, hhalf⟩ : ∃ x, x = S.length / 2 := ⟨_, rfl⟩
  obtain ⟨nd, hnd⟩ : ∃ x, x = needN b.length := ⟨_, rfl⟩
  obtain ⟨br, hbr⟩ : ∃ x, x = 1 - ar := ⟨_, rfl⟩
  have hneed := fun w => need_t Ab b.length cb w (by omega)
  have hsize := size_t j d S.length cs As w c0 k0 (by omega)
  rw [← hhalf] at hsize
  rw [← hnd] at hneed
  have hndb : nd ≤ 1000000 := by rw [hnd]; unfold needN; omega
  have hhb : half ≤ 100000 := by omega
  have hbr1 : br ≤ 1 := by omega
  have hsub : IntKind.i64.wrap (1 - (ar : Int)) = (br : Int) := by
    have : (1 : Int) - (ar : Int) = (br : Int) := by omega
    rw [this]
    exact IntWalk.i64_in _ (by omega)
  have HNEED := hide hneed; clear hneed
  have HSIZE := hide hsize; clear hsize
  have HHALF := hide hhalf; clear hhalf
  have HND := hide hnd; clear hnd
  have HBR := hide hbr; clear hbr
  unfold CheckpointPost
  rw [← HHALF.out, ← HND.out, ← HBR.out]
  go_enter Try.func19, Try.ntmps19
  by_cases h1 : 4000 < b.length
  · go_wp2_with (go_at_call 32; refine (none_no j d _ c0).mono ?_; rintro e w' ⟨rfl, rfl⟩)
    go_ret
    exact ⟨rfl, Ext.refl _ _⟩
  by_cases h2 : half < nd
  · go_wp2_with (first
      | (go_at_call 32; refine (none_no j d _ c0).mono ?_; rintro e w' ⟨rfl, rfl⟩)
      | (go_at_call 33; refine (HNEED.out _).mono ?_; rintro e w' ⟨rfl, rfl⟩)
      | (go_at_call 34; refine HSIZE.out.mono ?_; rintro e w' ⟨rfl, rfl⟩))
    go_ret
    exact ⟨rfl, Ext.refl _ _⟩
  by_cases h3 : ep = 1073741824
  · subst h3
    go_wp2_with (first
      | (go_at_call 32; refine (none_no j d _ c0).mono ?_; rintro e w' ⟨rfl, rfl⟩)
      | (go_at_call 33; refine (HNEED.out _).mono ?_; rintro e w' ⟨rfl, rfl⟩)
      | (go_at_call 34; refine HSIZE.out.mono ?_; rintro e w' ⟨rfl, rfl⟩))
    go_ret
    exact ⟨rfl, Ext.refl _ _⟩
  simp only [if_neg h1, if_neg h2, if_neg h3]
  have hadd : IntKind.i64.wrap ((ep : Int) + 1) = (ep : Int) + 1 := IntWalk.i64_in _ (by omega)
  go_upto_region 9 with (first
      | (go_at_call 32; refine (none_no j d _ c0).mono ?_; rintro e w' ⟨rfl, rfl⟩)
      | (go_at_call 33; refine (HNEED.out _).mono ?_; rintro e w' ⟨rfl, rfl⟩)
      | (go_at_call 34; refine HSIZE.out.mono ?_; rintro e w' ⟨rfl, rfl⟩))
  have heq : ((ep : Int) == 1073741824) = false := by
    rw [beq_eq_false_iff_ne]; omega
  rw [heq]
  clear heq
  go_cut [] (fun w' => Ext (fun k => k = j) w w' ∧ Blk w' j 82 #[.pointer (some ⟨d, 0, none⟩), .int .i64 br, .int .i64 (ep + 1 : Nat), .int .i64 li, .int .i64 en, vr])
  case first =>
    have c1' : w.drew.cell? ⟨j, 1, none⟩ = _ := c1
    have c2' : w.drew.cell? ⟨j, 2, none⟩ = _ := c2
    have f1' : w.drew.frozen? ⟨j, 1, none⟩ = false := f1
    have f2' : w.drew.frozen? ⟨j, 2, none⟩ = false := f2
    go_region
    all_goals
      go_wp2_with fail
      go_meet
      have hb : Blk ((w.drew.setCell ⟨j, 1, none⟩ (.int .i64 br)).setCell ⟨j, 2, none⟩ (.int .i64 ((ep : Int) + 1))) j 82 #[.pointer (some ⟨d, 0, none⟩), .int .i64 br, .int .i64 (ep + 1 : Nat), .int .i64 li, .int .i64 en, vr] := by
        simpa using ((HJ.out.jb.ext (Ext.refl NoS w).drew (fun h => h)).set 1 (.int .i64 br)).set 2 (.int .i64 ((ep : Int) + 1))
      exact ⟨((Ext.refl _ w).drew.trans' (ext_setCell _ _ _ _)).trans' (ext_setCell _ _ _ _), hb⟩
  case rest =>
    obtain ⟨hE1, hb1⟩ := hcut
    have hj := HJ.out.jset hE1 hb1
    have hbW : Bytes (fun x => ByteBlk wc x) wc (.slice Ab b.length cb) b := HB.out.kept (hE1.mono (fun _ _ h => .inl h) : Ext (JS j d (.slice As S.length cs) vp vr) w wc) HJ.out
    obtain ⟨e1, he1⟩ : ∃ x, x = ep + 1 := ⟨_, rfl⟩
    rw [← he1] at hj hb1
    have he1b : e1 < 4294967296 := by omega
    have q1 := hb1.cell 1
    have q2 := hb1.cell 2
    have q3 := hb1.cell 3
    simp at q1 q2 q3
    have keepS : ∀ w', Ext (fun k => k = d ∨ vp.ownBlock = some k) wc w' → Ext (fun k => k = d ∨ vp.ownBlock = some k) wc w' ∧ w'.cell? ⟨j, 1, none⟩ = some (.int .i64 br) ∧ w'.cell? ⟨j, 2, none⟩ = some (.int .i64 e1) ∧ w'.cell? ⟨j, 3, none⟩ = some (.int .i64 li) := fun w' h => by
      have hne : ¬ (j = d ∨ vp.ownBlock = some j) := fun e => by
        rcases e with e | e
        · exact (e ▸ hj.jb).ne_ hj.disk.blk (by decide) rfl
        · exact own_ne hj.disk.pend hj.jb (by decide) e
      exact ⟨h, h.cell q1 hne, h.cell q2 hne, h.cell q3 hne⟩
    have HE1 := hide hE1
    have HJW := hide hj
    have HBW := hide hbW
    have HE1B := hide he1
    clear hb1 hj hbW HB c0 c1 c2 f1 f2 k0 hsub hadd hE1 he1
    go_upto_region 10 with fail
    go_cut [] (fun w' => Ext (fun k => k = d ∨ vp.ownBlock = some k) wc w' ∧ ∃ vp', DiskAt B w' d (.slice As S.length cs) vp' S (P ++ recW (br * half : Nat) e1 li 0 b))
    case first =>
      have hwr : ∀ W2, Ext NoS wc W2 → Calls Try.prog 35 #[.pointer (some ⟨j, 0, none⟩), .int .i64 br, .agg #[.int .i64 e1, .int .i64 li, .int .i64 0, .int .i64 0], .slice Ab b.length cb] W2 fun e w' => e = .returned (.tuple #[]) ∧ ∃ vp', DiskAt B w' d (.slice As S.length cs) vp' S (P ++ recW (br * half : Nat) e1 li 0 b) ∧ Ext (fun k => k = d ∨ vp.ownBlock = some k) W2 w' := fun W2 h2 => by
        rw [HHALF.out]
        exact write_t B j d br e1 li 0 _ vp _ S P b W2 hbl he1b hli (by omega) hbr1 _ (HJW.out.jb.ext h2 (fun h => h)) rfl (HJW.out.disk.no h2) ((HBW.out.ext h2 (fun _ _ _ h => h)).mono (fun x _ h => h.ext h2 (fun h => h))) (by omega) (by omega) (by have := HE1.out.size; have := h2.size; omega)
      have HWR := hide hwr; clear hwr
      go_region_held3 (fun w' => Ext (fun k => k = d ∨ vp.ownBlock = some k) wc w' ∧ w'.cell? ⟨j, 1, none⟩ = some (.int .i64 br) ∧ w'.cell? ⟨j, 2, none⟩ = some (.int .i64 e1) ∧ w'.cell? ⟨j, 3, none⟩ = some (.int .i64 li))
        (first | exact keepS _ (Ext.refl _ _).drew | exact keepS _ (by assumption))
        ((go_at_call 35; refine (HWR.out _ (Ext.refl NoS wc).drew).mono ?_; rintro e' w3 ⟨rfl, vp', hd3, hE3⟩; have hx3 : Ext (fun k => k = d ∨ vp.ownBlock = some k) wc w3 := (Ext.refl _ wc).drew.trans' hE3))
      all_goals
        go_wp2_with fail
        go_meet
        exact ⟨hx3, _, hd3⟩
    case rest =>
      obtain ⟨hE3, vp', hd3⟩ := hcut
      have hj3 := HJW.out.write hE3 hd3
      have hx3 : Ext (JS j d (.slice As S.length cs) vp vr) w wc := (HE1.out.mono (fun _ _ h => .inl h)).trans hE3 (fun i _ h => h.elim (fun h => .inr (.inl h)) (fun h => .inr (.inr (.inr (.inl h)))))
      have hbw3 := HBW.out.kept (hE3.mono (fun i _ h => h.elim (fun h => .inr (.inl h)) (fun h => .inr (.inr (.inr (.inl h)))))) HJW.out
      have d0 := hj3.jb.cell 0
      simp at d0
      have hPl : (P ++ recW (br * half : Nat) e1 li 0 b).length ≤ 1000000 := by
        rw [List.length_append, recW_length, ← HND.out]; omega
      have HJ3 := hide hj3
      have HX3 := hide hx3
      have HBW3 := hide hbw3
      clear hj3 hx3 hbw3 hE3 hd3 keepS q1 q2 q3
      go_upto_region 12 with (go_at_call 13; refine (sync_t B _ d _ vp' S _ HJ3.out.disk (by omega) hPl).mono ?_; rintro e w4 ⟨rfl, h1, h2⟩; have HD4 := hide h1; clear h1; have HE4 := hide h2; clear h2)
      have hj4 := HJ3.out.synced HE4.out HD4.out
      have hds : Ext (JS j d (.slice As S.length cs) vp' vr) wc w4 := HE4.out.mono (fun i _ h => h.elim (fun h => .inr (.inl h)) (fun h => .inr (.inr (.inl h))))
      have hbw4 := HBW3.out.kept hds HJ3.out
      have hx4 : Ext (JS j d (.slice As S.length cs) vp vr) w w4 := HX3.out.trans HE4.out (fun i _ h => h.elim (fun h => .inr (.inl h)) (fun h => .inr (.inr (.inl h))))
      have hcl : ∀ W2, Ext NoS w4 W2 → Calls Try.prog 36 #[.slice Ab b.length cb] W2 (Fresh W2 5 1 b.length (b.map bv)) := fun W2 h2 => cloneB_t _ W2 _ b (hbw4.ext h2 (fun _ _ _ h => h)) hbl
      have HCL := hide hcl
      have HJ4 := hide hj4
      have HX4 := hide hx4
      clear hcl hj4 hx4 hbw4 hds d0 HJ3 HX3 HBW3
      go_wp2_with (first
        | (go_at_call 33; refine (HNEED.out _).mono ?_; rintro e w' ⟨rfl, rfl⟩)
        | (go_at_call 36; refine (HCL.out _ (Ext.refl NoS w4)).mono ?_; rintro e' w5 ⟨v5, rfl, ho5, hE5⟩; obtain ⟨A5, c5, hv5, _, _⟩ := own_slice ho5; subst hv5; have hb5 := HJ4.out.jb.ext hE5 (fun h => h); have hb5a := hb5.alloc (.cells #[.slice A5 b.length c5] 46); have y4 := hb5a.cell 4; have y5 := hb5a.cell 5; have z4 := hb5a.frozen 4; have z5 := hb5a.frozen 5; simp only [List.getElem?_toArray, List.getElem?_cons_succ, List.getElem?_cons_zero] at y4 y5; clear hb5a; have HO5 := hide ho5; clear ho5; have HE5 := hide hE5; clear hE5; have HB5 := hide hb5; clear hb5))
      go_ret
      have h6 : Ext NoS w5 (w5.alloc (.cells #[.slice A5 b.length c5] 46)) := (Ext.refl NoS w5).alloc _
      have hb7 := (((HB5.out.ext h6 (fun h => h)).set 4 (.int .i64 nd)).set 5 (.slice (some ⟨w5.heap.size, 0, none⟩) 1 1))
      have hj : Ext (fun k => k = j) (w5.alloc (.cells #[.slice A5 b.length c5] 46)) (((w5.alloc (.cells #[.slice A5 b.length c5] 46)).setCell ⟨j, 4, none⟩ (.int .i64 nd)).setCell ⟨j, 5, none⟩ (.slice (some ⟨w5.heap.size, 0, none⟩) 1 1)) := (ext_setCell _ _ _ _).trans' (ext_setCell _ _ _ _)
      have hbj := HB5.out.ext h6 (fun h => h)
      have hB5 : B ≤ w5.heap.size := by have := HX4.out.size; have := HE5.out.size; omega
      have hbyt := (Bytes.of_ownB HO5.out).ext h6 (fun _ _ _ h => h)
      rw [← HE1B.out]
      refine ⟨rfl, ⟨_, ⟨by simpa using hb7, ?_, ?_⟩, fun g hg => .inr (by simp [Value.ownBlock] at hg; have := HX4.out.size; have := HE5.out.size; omega)⟩, ((HX4.out.trans' HE5.out.of_no).trans' h6.of_no).trans hj (fun i _ h => .inl h)⟩
      · have hd5 := (HJ4.out.disk.no HE5.out).no h6
        exact hd5.ext hj (fun e => (e ▸ hd5.blk).ne_ hbj (by decide) rfl) (fun g hg e => own_ne hd5.safe hbj (by decide) (e ▸ hg)) (fun g hg e => own_ne hd5.pend hbj (by decide) (e ▸ hg))
      · refine Recs.ext (S := fun k => k = j) (w := w5.alloc (.cells #[.slice A5 b.length c5] 46)) ⟨[.slice A5 b.length c5], World.ownsRow_lit (base := B) (e := 46) (size := 1) w5 #[.slice A5 b.length c5] 1 hB5 (by unfold maxLen; omega) rfl, rfl, fun i hi hi' => ?_⟩ hj (fun g hg e => ?_) (fun x _ ⟨cs, hx⟩ e => (e ▸ hx).ne_ hbj (by decide) rfl)
        · have : i = 0 := by simpa using hi
          subst this
          exact hbyt.mono (fun x _ hx => ⟨trivial, hx.2.ext h6 (fun h => h)⟩)
        · simp [Value.ownBlock] at hg
          have := HB5.out.lt
          have e : g = j := e
          omega
end Go.Proofs.Ytmhhfhmpdpgmbaa
