/- Journals in memory; Commit, Append. -/
import Derived.Test.YtmhhfhmpdpgmbaaWrite
import Derived.Test.YtmhhfhmpdpgmbaaScan
import Derived.Deep.RegionLaw
namespace Go.Proofs.Ytmhhfhmpdpgmbaa
open Go.RowKit

/-- A journal at block j, on a disk at block d. -/
structure JAt (B : Nat) (w : World) (j d : Nat) (vs vp vr : Value) (S : List Sec) (P : List (Int × Sec)) (ar ep li en : Nat) (recs : List (List UInt8)) : Prop where
  jb : Blk w j 82 #[.pointer (some ⟨d, 0, none⟩), .int .i64 ar, .int .i64 ep, .int .i64 li, .int .i64 en, vr]
  disk : DiskAt B w d vs vp S P
  recs : Recs (fun _ => True) w B vr recs
theorem JAt.ext {T : Nat → Prop} {B : Nat} {w w' : World} {j d : Nat} {vs vp vr : Value} {S : List Sec} {P : List (Int × Sec)} {ar ep li en : Nat} {recs : List (List UInt8)} (h : JAt B w j d vs vp vr S P ar ep li en recs) (he : Ext T w w')
    (h0 : ¬ T j) (h1 : ¬ T d) (h2 : ∀ g, vs.ownBlock = some g → ¬ T g) (h3 : ∀ g, vp.ownBlock = some g → ¬ T g) (h4 : ∀ g, vr.ownBlock = some g → ¬ T g) (h5 : ∀ b, ByteBlk w b → ¬ T b) : JAt B w' j d vs vp vr S P ar ep li en recs :=
  ⟨h.jb.ext he h0, h.disk.ext he h1 h2 h3, h.recs.ext he h4 (fun b _ h => h5 b h)⟩
theorem JAt.no {B : Nat} {w w' : World} {j d : Nat} {vs vp vr : Value} {S : List Sec} {P : List (Int × Sec)} {ar ep li en : Nat} {recs : List (List UInt8)} (h : JAt B w j d vs vp vr S P ar ep li en recs) (he : Ext NoS w w') : JAt B w' j d vs vp vr S P ar ep li en recs :=
  h.ext he (fun h => h) (fun h => h) (fun _ _ h => h) (fun _ _ h => h) (fun _ _ h => h) (fun _ _ h => h)
/-- The blocks of a journal that may turn. -/
def JS (j d : Nat) (vs vp vr : Value) : Nat → Prop := fun k => k = j ∨ k = d ∨ vs.ownBlock = some k ∨ vp.ownBlock = some k ∨ vr.ownBlock = some k

set_option maxHeartbeats 1000000 in
theorem commit_t (B : Nat) (w : World) (j d : Nat) (vs vp vr : Value) (S : List Sec) (P : List (Int × Sec)) (ar ep li en : Nat) (recs : List (List UInt8)) (h : JAt B w j d vs vp vr S P ar ep li en recs) (hS : S.length ≤ 1000000) (hP : P.length ≤ 1000000) :
    Calls Try.prog 27 #[.pointer (some ⟨j, 0, none⟩)] w fun e w' => e = .returned (.int .i64 0) ∧ JAt B w' j d vs (.slice none 0 0) vr (crash S P []) [] ar ep li en recs ∧ Ext (DiskS d vs) w w' := by
  have c0 := h.jb.cell 0
  simp at c0
  have HJ := hide h
  clear h
  go_enter Try.func27, Try.ntmps27
  go_wp2_with (first
    | (go_at_call 32; refine (none_no j d _ c0).mono ?_; rintro e w' ⟨rfl, rfl⟩)
    | (go_at_call 13; refine (sync_t B _ d vs vp S P HJ.out.disk hS hP).mono ?_; rintro e w' ⟨rfl, h1, h2⟩; have HD := hide h1; clear h1; have HE := hide h2; clear h2))
  go_ret
  have hj := HJ.out
  have hne : ∀ (x : Nat) t cs, BB w x t cs → t ≠ 25 → t ≠ 53 → ¬ DiskS d vs x := fun x t cs hb h1 h2 h => by
    rcases h with h | h
    · exact (h ▸ hb).ne_ hj.disk.blk h1 rfl
    · exact own_neB hj.disk.safe hb (fun e => h2 e.symm) h
  refine ⟨rfl, ⟨hj.jb.ext HE.out (hne _ _ _ hj.jb.bb (by decide) (by decide)), HD.out, hj.recs.ext HE.out (fun g hg => ?_) (fun b _ ⟨cs, hb⟩ => hne _ _ _ hb (by decide) (by decide))⟩, HE.out⟩
  obtain ⟨vals, ho, _, _⟩ := hj.recs
  obtain ⟨cur, hc, _⟩ := own_blk ho hg
  exact hne _ _ _ hc.bb (by decide) (by decide)

theorem JAt.write {B : Nat} {w w' : World} {j d : Nat} {vs vp vp' vr : Value} {S : List Sec} {P P' : List (Int × Sec)} {ar ep li en : Nat} {recs : List (List UInt8)} (h : JAt B w j d vs vp vr S P ar ep li en recs)
    (he : Ext (fun k => k = d ∨ vp.ownBlock = some k) w w') (hd : DiskAt B w' d vs vp' S P') : JAt B w' j d vs vp' vr S P' ar ep li en recs := by
  have hne : ∀ (x : Nat) t cs, BB w x t cs → t ≠ 25 → t ≠ 55 → ¬ (x = d ∨ vp.ownBlock = some x) := fun x t cs hb h1 h2 h' => by
    rcases h' with h' | h'
    · exact (h' ▸ hb).ne_ h.disk.blk h1 rfl
    · exact own_neB h.disk.pend hb (fun e => h2 e.symm) h'
  refine ⟨h.jb.ext he (hne _ _ _ h.jb.bb (by decide) (by decide)), hd, h.recs.ext he (fun g hg => ?_) (fun b _ ⟨cs, hb⟩ => hne _ _ _ hb (by decide) (by decide))⟩
  obtain ⟨vals, ho, _, _⟩ := h.recs
  obtain ⟨cur, hc, _⟩ := own_blk ho hg
  exact hne _ _ _ hc.bb (by decide) (by decide)

theorem JAt.jset {B : Nat} {w w' : World} {j d : Nat} {vs vp vr : Value} {S : List Sec} {P : List (Int × Sec)} {ar ep li en ar' ep' li' en' : Nat} {recs : List (List UInt8)} (h : JAt B w j d vs vp vr S P ar ep li en recs)
    (he : Ext (fun k => k = j) w w') (hb : Blk w' j 82 #[.pointer (some ⟨d, 0, none⟩), .int .i64 ar', .int .i64 ep', .int .i64 li', .int .i64 en', vr]) : JAt B w' j d vs vp vr S P ar' ep' li' en' recs := by
  refine ⟨hb, h.disk.ext he (fun e => (e ▸ h.disk.blk).ne_ h.jb (by decide) rfl) (fun g hg e => own_ne h.disk.safe h.jb (by decide) (e ▸ hg)) (fun g hg e => own_ne h.disk.pend h.jb (by decide) (e ▸ hg)), h.recs.ext he (fun g hg e => ?_) (fun b _ ⟨cs, hb⟩ e => (e ▸ hb).ne_ h.jb (by decide) rfl)⟩
  obtain ⟨vals, ho, _, _⟩ := h.recs
  exact own_ne ho h.jb (by decide) (e ▸ hg)
theorem JAt.byte_ne {B : Nat} {w : World} {j d : Nat} {vs vp vr : Value} {S : List Sec} {P : List (Int × Sec)} {ar ep li en : Nat} {recs : List (List UInt8)} (h : JAt B w j d vs vp vr S P ar ep li en recs) (x : Nat) (hx : ByteBlk w x) : ¬ JS j d vs vp vr x := by
  obtain ⟨cs, hb⟩ := hx
  rintro (e | e | e | e | e)
  · exact (e ▸ hb).ne_ h.jb (by decide) rfl
  · exact (e ▸ hb).ne_ h.disk.blk (by decide) rfl
  · exact own_neB h.disk.safe hb (by decide) e
  · exact own_neB h.disk.pend hb (by decide) e
  · obtain ⟨vals, ho, _, _⟩ := h.recs
    exact own_neB ho hb (by decide) e
/-- Bytes that lay beside a journal lie as they lay. -/
theorem Bytes.kept {B : Nat} {w w' : World} {j d : Nat} {vs vp vr v : Value} {S : List Sec} {P : List (Int × Sec)} {ar ep li en : Nat} {recs : List (List UInt8)} {b : List UInt8} (hb : Bytes (fun x => ByteBlk w x) w v b)
    (he : Ext (JS j d vs vp vr) w w') (h : JAt B w j d vs vp vr S P ar ep li en recs) : Bytes (fun x => ByteBlk w' x) w' v b :=
  (hb.ext he (fun x hx _ => h.byte_ne x hx)).mono (fun x _ hx => hx.ext he (h.byte_ne x hx))

theorem JAt.push {B : Nat} {w w6 : World} {j d : Nat} {vs vp vr v5 v6 : Value} {S : List Sec} {P : List (Int × Sec)} {ar ep li en : Nat} {recs : List (List UInt8)} {b : List UInt8} (h : JAt B w j d vs vp vr S P ar ep li en recs) (vals : List Value)
    (hvo : w.ownsRow B 46 1 vr recs.length vals) (hvl : vals.length = recs.length) (hvb : ∀ i (h : i < recs.length) (h' : i < vals.length), Bytes (fun b => True ∧ ByteBlk w b) w vals[i] recs[i])
    (he : Ext (fun k => vr.ownBlock = some k) w w6) (ho : w6.ownsRow B 46 1 v6 (recs.length + 1) (vals ++ [v5])) (hv : Bytes (fun x => ByteBlk w6 x) w6 v5 b) :
    Ext (fun k => k = j ∨ vr.ownBlock = some k) w (w6.setCell ⟨j, 5, none⟩ v6) ∧ JAt B (w6.setCell ⟨j, 5, none⟩ v6) j d vs vp v6 S P ar ep li en (recs ++ [b]) := by
  have hne : ∀ (x : Nat) t cs, BB w x t cs → t ≠ 46 → ¬ (vr.ownBlock = some x) := fun x t cs hb h2 h' => own_neB hvo hb (fun e => h2 e.symm) h'
  have hb6 := h.jb.ext he (hne _ _ _ h.jb.bb (by decide))
  have h6 := ext_setCell w6 j 5 v6
  have hd6 := h.disk.ext he (hne _ _ _ h.disk.blk.bb (by decide)) (fun g hg => by
    obtain ⟨cur, hc, _⟩ := own_blk h.disk.safe hg
    exact hne _ _ _ hc.bb (by decide)) (fun g hg => by
    obtain ⟨cur, hc, _⟩ := own_blk h.disk.pend hg
    exact hne _ _ _ hc.bb (by decide))
  have hd7 : DiskAt B (w6.setCell ⟨j, 5, none⟩ v6) d vs vp S P := hd6.ext h6 (fun e => (e ▸ hd6.blk).ne_ hb6 (by decide) rfl) (fun g hg e => own_ne hd6.safe hb6 (by decide) (e ▸ hg)) (fun g hg e => own_ne hd6.pend hb6 (by decide) (e ▸ hg))
  refine ⟨(he.mono (fun _ _ h => .inr h)).trans' (h6.mono (fun _ _ h => .inl h)), by simpa using hb6.set 5 v6, hd7, ?_⟩
  refine Recs.ext (Recs.snoc (K := fun _ => True) (K' := fun _ => True) (v := v5) vals hvl hvb (hv.mono (fun x _ hx => ⟨trivial, hx⟩)) he (fun x _ ⟨cs, hx⟩ => hne _ _ _ hx (by decide)) (fun _ h => h) ho) h6 (fun g hg e => own_ne ho hb6 (by decide) (e ▸ hg)) (fun x _ ⟨cs, hx⟩ e => (e ▸ hx).ne_ hb6 (by decide) rfl)

def AppendPost (B : Nat) (w : World) (j d : Nat) (vs vp vr : Value) (S : List Sec) (P : List (Int × Sec)) (ar ep li en : Nat) (recs : List (List UInt8)) (b : List UInt8) (e : Ending) (w' : World) : Prop :=
  if 4000 < b.length then e = .returned (.int .i64 3) ∧ Ext NoS w w'
  else if S.length / 2 - en < needN b.length then e = .returned (.int .i64 4) ∧ Ext NoS w w'
  else e = .returned (.int .i64 0) ∧ (∃ vp' vr', JAt B w' j d vs vp' vr' S (P ++ recW (ar * (S.length / 2) : Nat) ep li en b) ar ep li (en + needN b.length) (recs ++ [b]) ∧ OwnFr w vr vr') ∧ Ext (JS j d vs vp vr) w w'

set_option maxRecDepth 100000 in
set_option maxHeartbeats 4000000 in
theorem append_t (B : Nat) (w : World) (j d : Nat) (vs vp vr v : Value) (S : List Sec) (P : List (Int × Sec)) (ar ep li en : Nat) (recs : List (List UInt8)) (b : List UInt8) (h : JAt B w j d vs vp vr S P ar ep li en recs) (hb : Bytes (fun x => ByteBlk w x) w v b)
    (hS : S.length ≤ 1000000) (hP : P.length ≤ 1000000) (hB : B ≤ w.heap.size) (har : ar ≤ 1) (hep : ep < 4294967296) (hli : li < 4294967296) (hen : en ≤ S.length / 2) (hbl : b.length ≤ 1000000) (hrl : recs.length ≤ 1000000) :
    Calls Try.prog 20 #[.pointer (some ⟨j, 0, none⟩), v] w (AppendPost B w j d vs vp vr S P ar ep li en recs b) := by
  have c0 := h.jb.cell 0
  have c4 := h.jb.cell 4
  have k0 := h.disk.blk.cell 0
  simp at c0 c4 k0
  obtain ⟨As, cs, rfl, hcs, _⟩ := own_slice h.disk.safe
  obtain ⟨Ab, cb, rfl, hcb, hrb⟩ := hb
  have hb : Bytes (fun x => ByteBlk w x) w (.slice Ab b.length cb) b := ⟨Ab, cb, rfl, hcb, hrb⟩
  clear hrb
  have HJ := hide h; clear h
  have HB := hide hb; clear hb
  obtain ⟨half, hhalf⟩ : ∃ x, x = S.length / 2 := ⟨_, rfl⟩
  obtain ⟨nd, hnd⟩ : ∃ x, x = needN b.length := ⟨_, rfl⟩
  have hneed := fun w => need_t Ab b.length cb w (by omega)
  have hroom := room_t j d S.length cs en As w c0 k0 (by omega) c4 hen
  rw [← hhalf] at hroom hen
  rw [← hnd] at hneed
  have hndb : nd ≤ 1000000 := by rw [hnd]; unfold needN; omega
  have hhb : half ≤ 1000000 := by omega
  have HNEED := hide hneed; clear hneed
  have HROOM := hide hroom; clear hroom
  have HHALF := hide hhalf; clear hhalf
  have HND := hide hnd; clear hnd
  unfold AppendPost
  rw [← HHALF.out, ← HND.out]
  go_enter Try.func20, Try.ntmps20
  by_cases h1 : 4000 < b.length
  · go_wp2_with (go_at_call 32; refine (none_no j d _ c0).mono ?_; rintro e w' ⟨rfl, rfl⟩)
    go_ret
    exact ⟨rfl, Ext.refl _ _⟩
  by_cases h2 : half - en < nd
  · go_wp2_with (first
      | (go_at_call 32; refine (none_no j d _ c0).mono ?_; rintro e w' ⟨rfl, rfl⟩)
      | (go_at_call 33; refine (HNEED.out _).mono ?_; rintro e w' ⟨rfl, rfl⟩)
      | (go_at_call 21; refine HROOM.out.mono ?_; rintro e w' ⟨rfl, m, rfl⟩))
    go_ret
    exact ⟨rfl, (Ext.refl _ _).drewN _⟩
  simp only [if_neg h1, if_neg h2]
  go_upto_region 7 with (first
      | (go_at_call 32; refine (none_no j d _ c0).mono ?_; rintro e w' ⟨rfl, rfl⟩)
      | (go_at_call 33; refine (HNEED.out _).mono ?_; rintro e w' ⟨rfl, rfl⟩)
      | (go_at_call 21; refine HROOM.out.mono ?_; rintro e w' ⟨rfl, m, rfl⟩))
  refine wp_world (fun W => Ext NoS w W) ((Ext.refl _ _).drewN _) ?_
  intro W hEW
  have hj := HJ.out.no hEW
  have hbW : Bytes (fun x => ByteBlk W x) W (.slice Ab b.length cb) b := (HB.out.ext hEW (fun _ _ _ h => h)).mono (fun x _ h => h.ext hEW (fun h => h))
  have q1 := hj.jb.cell 1
  have q2 := hj.jb.cell 2
  have q3 := hj.jb.cell 3
  have q4 := hj.jb.cell 4
  simp at q1 q2 q3 q4
  clear c0 c4 k0 HROOM
  have keepS : ∀ w', Ext (fun k => k = d ∨ vp.ownBlock = some k) W w' → Ext (fun k => k = d ∨ vp.ownBlock = some k) W w' ∧ w'.cell? ⟨j, 1, none⟩ = some (.int .i64 ar) ∧ w'.cell? ⟨j, 2, none⟩ = some (.int .i64 ep) ∧ w'.cell? ⟨j, 3, none⟩ = some (.int .i64 li) ∧ w'.cell? ⟨j, 4, none⟩ = some (.int .i64 en) := fun w' h => by
    have hne : ¬ (j = d ∨ vp.ownBlock = some j) := fun e => by
      rcases e with e | e
      · exact (e ▸ hj.jb).ne_ hj.disk.blk (by decide) rfl
      · exact own_ne hj.disk.pend hj.jb (by decide) e
    exact ⟨h, h.cell q1 hne, h.cell q2 hne, h.cell q3 hne, h.cell q4 hne⟩
  have HJW := hide hj
  have HBW := hide hbW
  have HEW := hide hEW
  clear hj hbW hEW HJ HB
  go_cut [] (fun w' => Ext (fun k => k = d ∨ vp.ownBlock = some k) W w' ∧ ∃ vp', DiskAt B w' d (.slice As S.length cs) vp' S (P ++ recW (ar * half : Nat) ep li en b))
  case first =>
    have hwr : ∀ W2, Ext NoS W W2 → Calls Try.prog 35 #[.pointer (some ⟨j, 0, none⟩), .int .i64 ar, .agg #[.int .i64 ep, .int .i64 li, .int .i64 en, .int .i64 0], .slice Ab b.length cb] W2 fun e w' => e = .returned (.tuple #[]) ∧ ∃ vp', DiskAt B w' d (.slice As S.length cs) vp' S (P ++ recW (ar * half : Nat) ep li en b) ∧ Ext (fun k => k = d ∨ vp.ownBlock = some k) W2 w' := fun W2 h2 => by
      rw [HHALF.out]
      exact write_t B j d ar ep li en _ vp _ S P b W2 hbl hep hli (by omega) har _ (HJW.out.jb.ext h2 (fun h => h)) rfl (HJW.out.disk.no h2) ((HBW.out.ext h2 (fun _ _ _ h => h)).mono (fun x _ h => h.ext h2 (fun h => h))) hS hP (by have := HEW.out.size; have := h2.size; omega)
    have HWR := hide hwr; clear hwr
    go_region_held3 (fun w' => Ext (fun k => k = d ∨ vp.ownBlock = some k) W w' ∧ w'.cell? ⟨j, 1, none⟩ = some (.int .i64 ar) ∧ w'.cell? ⟨j, 2, none⟩ = some (.int .i64 ep) ∧ w'.cell? ⟨j, 3, none⟩ = some (.int .i64 li) ∧ w'.cell? ⟨j, 4, none⟩ = some (.int .i64 en))
      (first | exact keepS _ (Ext.refl _ _).drew | exact keepS _ (by assumption))
      ((go_at_call 35; refine (HWR.out _ (Ext.refl NoS W).drew).mono ?_; rintro e' w3 ⟨rfl, vp', hd3, hE3⟩; have hx3 : Ext (fun k => k = d ∨ vp.ownBlock = some k) W w3 := (Ext.refl _ W).drew.trans' hE3))
    all_goals
      go_wp2_with fail
      go_meet
      exact ⟨hx3, _, hd3⟩
  case rest =>
    obtain ⟨hE3, vp', hd3⟩ := hcut
    have hj3 : JAt B wc j d (.slice As S.length cs) vp' vr S (P ++ recW (ar * half : Nat) ep li en b) ar ep li en recs := HJW.out.write hE3 hd3
    have r4 : wc.drew.cell? ⟨j, 4, none⟩ = some (.int .i64 en) := by
      have := hj3.jb.cell 4
      simpa using this
    have s4 : wc.drew.frozen? ⟨j, 4, none⟩ = false := hj3.jb.frozen 4
    have hadd : IntKind.i64.wrap ((en : Int) + (nd : Int)) = (en : Int) + (nd : Int) := IntWalk.i64_in _ (by omega)
    have HJ3 := hide hj3
    have HE3 := hide hE3
    clear hj3 hE3 hd3 q1 q2 q3 q4 keepS
    go_upto_region 8 with fail
    go_cut [] (fun w' => Ext (fun k => k = j) wc w' ∧ Blk w' j 82 #[.pointer (some ⟨d, 0, none⟩), .int .i64 ar, .int .i64 ep, .int .i64 li, .int .i64 (en + nd : Nat), vr])
    case first =>
      go_region_with ((go_at_call 33; refine (HNEED.out _).mono ?_; rintro e w' ⟨rfl, rfl⟩))
      all_goals
        go_wp2_with fail
        go_meet
        have h5 := ext_setCell wc.drew j 4 (.int .i64 ((en : Int) + (nd : Int)))
        have hb : Blk (wc.drew.setCell ⟨j, 4, none⟩ (.int .i64 ((en : Int) + (nd : Int)))) j 82 #[.pointer (some ⟨d, 0, none⟩), .int .i64 ar, .int .i64 ep, .int .i64 li, .int .i64 (en + nd : Nat), vr] := by
          simpa using (HJ3.out.jb.ext (Ext.refl NoS wc).drew (fun h => h)).set 4 (.int .i64 ((en : Int) + (nd : Int)))
        exact ⟨(Ext.refl _ wc).drew.trans' h5, hb⟩
    case rest =>
      obtain ⟨hE4, hb4⟩ := hcut
      have hj4 := HJ3.out.jset hE4 hb4
      have hx4 : Ext (JS j d (.slice As S.length cs) vp vr) W wc := (HE3.out.mono (fun i _ h => h.elim (fun h => .inr (.inl h)) (fun h => .inr (.inr (.inr (.inl h)))))).trans hE4 (fun i _ h => .inl h)
      have hbw4 : Bytes (fun x => ByteBlk wc x) wc (.slice Ab b.length cb) b := HBW.out.kept hx4 HJW.out
      have r5 : wc.drew.cell? ⟨j, 5, none⟩ = some vr := by
        have := hb4.cell 5
        simpa using this
      obtain ⟨vals, hvo, hvl, hvb⟩ := hj4.recs
      have HVO := hide hvo
      have HJ4 := hide hj4
      have HX4 := hide hx4
      have HBW4 := hide hbw4
      have HB4 := hide hb4
      clear hvo hj4 hx4 hbw4 hb4 hE4 r4 s4 hadd HJ3 HE3
      go_upto_region 9 with fail
      go_cut [] (fun w' => Ext (fun k => k = j ∨ vr.ownBlock = some k) wc w' ∧ ∃ vr', JAt B w' j d (.slice As S.length cs) vp' vr' S (P ++ recW (ar * half : Nat) ep li en b) ar ep li (en + nd) (recs ++ [b]) ∧ OwnFr wc vr vr')
      case first =>
        have hcl : ∀ W2, Ext NoS wc W2 → Calls Try.prog 36 #[.slice Ab b.length cb] W2 (Fresh W2 5 1 b.length (b.map bv)) := fun W2 h2 => cloneB_t _ W2 _ b (HBW4.out.ext h2 (fun _ _ _ h => h)) hbl
        have HCL := hide hcl; clear hcl
        go_region_law (first
          | (go_simp; go_at_call 36; refine (HCL.out _ (Ext.refl NoS wc).drew).mono ?_; rintro e' w5 ⟨v5, rfl, ho5, hE5⟩; obtain ⟨A5, c5, hv5, _, _⟩ := own_slice ho5; subst hv5; have hx5 : Ext NoS wc w5 := (Ext.refl NoS wc).drew.trans' hE5; have y5 := hx5.cell r5 (fun h => h); have y5a := ((Ext.refl NoS w5).alloc (.cells #[.slice A5 b.length c5] 46)).cell y5 (fun h => h); have HO5 := hide ho5; clear ho5; have HX5 := hide hx5; clear hx5 hE5)
          | (refine step_append_any rfl _ _ 67 rfl B 46 _ 1 24 Try.underlying67 infoBs rfl (by decide) vr recs.length vals rfl (own_ext HVO.out (HX5.out.alloc _) (fun _ _ h => h)) (some ⟨w5.heap.size, 0, none⟩) 1 1 [.slice A5 b.length c5] rfl rfl (fun _ => ⟨_, _, rfl, (Blk.new w5 _ _).all⟩) (by simp [Value.oneCell']) (by unfold maxLen; omega) (by omega) (by have := HEW.out.size; have := HX4.out.size; have := HX5.out.size; simp; omega) ?_; intro v' w6 ho6 hg6 hor6; obtain ⟨A6, c6, hv6, _, _⟩ := own_slice ho6; subst hv6; have hx6 : Ext (fun k => vr.ownBlock = some k) wc w6 := (HX5.out.alloc (.cells #[.slice A5 b.length c5] 46)).of_no.grown hg6 (fun g hg => .inl hg); have hb6 : Blk w6 j 82 _ := HB4.out.ext hx6 (fun e => own_ne HVO.out HB4.out (by decide) e); have y6 := hb6.cell 5; simp at y6; have z6 := hb6.frozen 5; have HX6 := hide hx6; have HO6 := hide ho6; have HB6 := hide hb6; have HG6 := hide hg6; have HR6 := hide hor6; clear hx6 ho6 hb6 hg6 hor6))
        all_goals
          go_wp2_with fail
          go_meet
          have hv : Bytes (fun x => ByteBlk w6 x) w6 (.slice A5 b.length c5) b := by
            have h1 := Bytes.of_ownB HO5.out
            have h2 : Ext NoS w5 (w5.alloc (.cells #[.slice A5 b.length c5] 46)) := (Ext.refl NoS w5).alloc _
            have h3 : Ext (fun k => vr.ownBlock = some k) w5 w6 := h2.of_no.grown HG6.out (fun g hg => .inl hg)
            have h4 : ∀ x, ByteBlk w5 x → ¬ (vr.ownBlock = some x) := fun x ⟨cs, hx⟩ => own_neB (own_ext HVO.out HX5.out (fun _ _ h => h)) hx (by decide)
            exact (h1.ext h3 (fun x hx _ => h4 x hx.2)).mono (fun x _ hx => hx.2.ext h3 (h4 x hx.2))
          obtain ⟨hx7, hj7⟩ := HJ4.out.push vals HVO.out hvl hvb HX6.out HO6.out hv
          have hfr : OwnFr wc vr (.slice A6 (recs.length + 1) c6) := fun g hg => HR6.out.elim (fun h => .inl (h ▸ hg)) (fun h => .inr (by rw [h] at hg; injection hg with hg; have := HX5.out.size; simp at hg; omega))
          exact ⟨hx7, _, hj7, hfr⟩
      case rest =>
        obtain ⟨hx7, vr', hj7, hfr⟩ := hcut
        have hj : JAt B wc j d (.slice As S.length cs) vp' vr' S (P ++ recW (ar * half : Nat) ep li en b) ar ep li (en + nd) (recs ++ [b]) := hj7
        have hx8 : Ext (JS j d (.slice As S.length cs) vp vr) w wc := (HEW.out.of_no.trans' HX4.out).trans hx7 (fun i _ h => h.elim .inl (fun h => .inr (.inr (.inr (.inr h)))))
        have HX8 := hide hx8
        have HJ8 := hide hj
        have hfr0 : OwnFr w vr vr' := fun g hg => (hfr g hg).imp id (fun h => by have := HEW.out.size; have := HX4.out.size; omega)
        have HFR := hide hfr0
        clear hx7 hj7 hj hx8 hvl hvb r5 hfr hfr0
        go_wp2
        go_ret
        exact ⟨rfl, ⟨_, _, HJ8.out, HFR.out⟩, HX8.out⟩
end Go.Proofs.Ytmhhfhmpdpgmbaa
