/- (*Journal).write. -/
import Derived.Test.YtmhhfhmpdpgmbaaSecs
namespace Go.Proofs.Ytmhhfhmpdpgmbaa
open Go.RowKit
attribute [local go_sem] Oper.semAt_some

theorem sectors_t (w : World) (m0 m1 m2 m3 : Int) (A : Option Addr) (n c : Nat) : Calls Try.prog 42 #[.agg #[.int .i64 m0, .int .i64 m1, .int .i64 m2, .int .i64 m3], .slice A n c] w fun e w' => e = .returned (.func (.func 46) #[] #[.pointer (some ⟨w.heap.size, 0, none⟩), .pointer (some ⟨w.heap.size + 1, 0, none⟩)]) ∧
    (w.alloc (.cells #[.int .i64 m0, .int .i64 m1, .int .i64 m2, .int .i64 m3] 85)).alloc (.cells #[.slice A n c] 46) = w' := by
  go_enter Try.func42, Try.ntmps42
  go_wp2
  go_ret
  exact ⟨by simp, rfl⟩

theorem payK_length (b : List UInt8) (k : Nat) : (payK b k).length ≤ 18 := by unfold payK; rw [List.length_take]; omega
theorem secK_length (e l n : Nat) (b : List UInt8) (k : Nat) : (secK e l n b k).length = 32 := sectorOf_length _ _ _ _ _ (payK_length b k)
theorem foldl_set_zip : ∀ (vs : List Value) (c : Array Value) (o m : Nat), (vs.zipIdx m).foldl (fun cs (y : Value × Nat) => cs.setIfInBounds (o + y.2) y.1) c = setArr c (o + m) vs
  | [], _, _, _ => rfl
  | v :: r, c, o, m => by
    rw [List.zipIdx_cons, List.foldl_cons, setArr, foldl_set_zip r _ o (m + 1)]
    rfl
theorem build_cells (x : Value) (z vs : List Value) (h : z.length = vs.length) : vs.zipIdx.foldl (fun cs (y : Value × Nat) => cs.setIfInBounds (1 + y.2) y.1) (x :: z).toArray = (x :: vs).toArray := by
  rw [foldl_set_zip vs _ 1 0]
  apply Array.ext'
  rw [setArr_mid _ _ _ (by simp; omega)]
  simp [h]
  omega
theorem build_row (vs : List Value) (c : Array Value) (h : c.size = vs.length) : vs.zipIdx.foldl (fun cs (y : Value × Nat) => cs.setIfInBounds y.2 y.1) c = vs.toArray := by
  have := foldl_set_zip vs c 0 0
  simp only [Nat.zero_add] at this
  rw [this, setArr_all c vs h]
/-- The writes of a record. -/
def recW (base : Int) (e l n : Nat) (b : List UInt8) : List (Int × Sec) := (List.range (needN b.length)).map fun k => (base + ((n + k : Nat) : Int), secK e l n b k)
theorem recW_length (base : Int) (e l n : Nat) (b : List UInt8) : (recW base e l n b).length = needN b.length := by simp [recW]

theorem disk_push {B d : Nat} {W2 W3 w5 : World} {vs vp v' : Value} {S : List Sec} {P : List (Int × Sec)} {wr : Int × Sec} (hd : DiskAt B W2 d vs vp S P) (hE : Ext NoS W2 W3) (hg : W3.grownBy w5 vp.ownBlock)
    (ho : w5.ownsRow B 55 33 v' (P.length + 1) (P.flatMap wv ++ wv wr)) (hw : wr.2.length = 32) : Ext (fun x => x = d ∨ vp.ownBlock = some x) W2 (w5.setCell ⟨d, 1, none⟩ v') ∧ DiskAt B (w5.setCell ⟨d, 1, none⟩ v') d vs v' S (P ++ [wr]) ∧
      Blk w5 d 25 #[vs, vp] ∧ Ext (fun x => x = d ∨ vp.ownBlock = some x) W2 w5 := by
  have h5 : Ext (fun x => vp.ownBlock = some x) W2 w5 := hE.of_no.grown hg (fun g hg => .inl hg)
  have hb5 : Blk w5 d 25 #[vs, vp] := hd.blk.ext h5 (fun e => own_ne hd.pend hd.blk (by decide) e)
  have h6 := ext_setCell w5 d 1 v'
  refine ⟨(h5.mono (fun _ _ h => .inr h)).trans' (h6.mono (fun _ _ h => .inl h)), ⟨by simpa using hb5.set 1 v', ?_, ?_, hd.s32, ?_⟩, hb5, h5.mono (fun _ _ h => .inr h)⟩
  · exact own_ext (own_ext hd.safe h5 (fun g hg e => own_own_ne hd.safe hd.pend (by decide) hg e)) h6 (fun g hg e => own_ne (own_ext hd.safe h5 (fun g hg e => own_own_ne hd.safe hd.pend (by decide) hg e)) hb5 (by decide) (e ▸ hg))
  · have := own_ext ho h6 (fun g hg e => own_ne ho hb5 (by decide) (e ▸ hg))
    simpa [List.flatMap_append] using this
  · intro x hx
    rcases List.mem_append.1 hx with hx | hx
    · exact hd.p32 x hx
    · rw [List.mem_singleton.1 hx]; exact hw

set_option maxRecDepth 100000 in
set_option maxHeartbeats 4000000 in
theorem write_t (B j d area e life num : Nat) (vs vp v : Value) (S : List Sec) (P : List (Int × Sec)) (b : List UInt8) (w : World) (hlen : b.length ≤ 1000000) (he : e < 4294967296) (hl : life < 4294967296) (hn : num < 4294967296) (ha : area ≤ 1)
    (jcs : Array Value) (hj : Blk w j 82 jcs) (hj0 : jcs[0]? = some (.pointer (some ⟨d, 0, none⟩))) (hd : DiskAt B w d vs vp S P) (hbyt : Bytes (fun x => ByteBlk w x) w v b) (hS : S.length ≤ 1000000) (hP : P.length ≤ 1000000) (hB : B ≤ w.heap.size) :
    Calls Try.prog 35 #[.pointer (some ⟨j, 0, none⟩), .int .i64 area, .agg #[.int .i64 e, .int .i64 life, .int .i64 num, .int .i64 0], v] w fun en w' => en = .returned (.tuple #[]) ∧
      ∃ vp', DiskAt B w' d vs vp' S (P ++ recW (area * (S.length / 2) : Nat) e life num b) ∧ Ext (fun k => k = d ∨ vp.ownBlock = some k) w w' := by
  refine (callsIn_wide (n := 10)).1 ?_
  refine callsIn_of_wp_marks Try.func35 rfl trivial ?_
  simp only [Try.ntmps35, List.size_toArray, List.length_cons, List.length_nil, Nat.reduceAdd, Nat.reduceSub, Array.replicate_succ, Array.replicate_zero, List.push_toArray, List.append_toArray, List.nil_append, List.cons_append]
  obtain ⟨Ab, cb, rfl, hcb, hrb⟩ := hbyt
  have hbyt : Bytes (fun x => ByteBlk w x) w (.slice Ab b.length cb) b := ⟨Ab, cb, rfl, hcb, hrb⟩
  clear hrb
  have HJ := hide hj; clear hj
  have HD := hide hd; clear hd
  have HBYT := hide hbyt; clear hbyt
  gi_wp2_with (refine ⟨trivial, ?_⟩; gi_at_call 42; refine (CallsIn.mono (callsIn_wide.2 (sectors_t _ _ _ _ _ _ _ _)) ?_); rintro e w' ⟨rfl, rfl⟩)
  obtain ⟨W1, hW1⟩ : ∃ W1, W1 = (((((w.alloc (.cells #[.pointer (some ⟨j, 0, none⟩)] 41)).alloc (.cells #[.int .i64 area] 3)).alloc (.cells #[.int .i64 e, .int .i64 life, .int .i64 num, .int .i64 0] 85)).alloc
    (.cells #[.int .i64 e, .int .i64 life, .int .i64 num, .int .i64 0] 85)).alloc (.cells #[.slice Ab b.length cb] 46)) := ⟨_, rfl⟩
  rw [← hW1]
  have hE1 : Ext NoS w W1 := by rw [hW1]; exact (((((Ext.refl _ _).alloc _).alloc _).alloc _).alloc _).alloc _
  have hsz1 : W1.heap.size = w.heap.size + 5 := by rw [hW1]; simp
  have hjB : Blk W1 w.heap.size 41 #[.pointer (some ⟨j, 0, none⟩)] := by rw [hW1]; exact ((((Blk.new _ _ _).alloc _).alloc _).alloc _).alloc _
  have haB : Blk W1 (w.heap.size + 1) 3 #[.int .i64 area] := by rw [hW1]; exact ((((Blk.new _ _ _).at_ (by simp)).alloc _).alloc _).alloc _
  have hmB : Blk W1 (w.heap.size + 1 + 1 + 1) 85 #[.int .i64 e, .int .i64 life, .int .i64 num, .int .i64 0] := by rw [hW1]; exact ((Blk.new _ _ _).at_ (by simp)).alloc _
  have hbB : Blk W1 (w.heap.size + 1 + 1 + 1 + 1) 46 #[.slice Ab b.length cb] := by rw [hW1]; exact (Blk.new _ _ _).at_ (by simp)
  have hby1 : Bytes (fun x => ByteBlk W1 x) W1 (.slice Ab b.length cb) b := (HBYT.out.ext hE1 (fun _ _ _ h => h)).mono (fun x _ h => h.ext hE1 (fun h => h))
  have hd1 := HD.out.no hE1
  have hjl := HJ.out.lt
  have hdl := HD.out.blk.lt
  have hvsl : ∀ g, vs.ownBlock = some g → g < w.heap.size := fun g hg => by
    obtain ⟨cur, hc, _⟩ := own_blk HD.out.safe hg
    exact hc.lt
  have hvpl : ∀ g, vp.ownBlock = some g → g < w.heap.size := fun g hg => by
    obtain ⟨cur, hc, _⟩ := own_blk HD.out.pend hg
    exact hc.lt
  have hj1 := HJ.out.ext hE1 (fun h => h)
  have HE1 := hide hE1
  clear hW1 HD HJ HBYT hE1
  refine wpIn_range_own (by omega) (gf := 46) (lb := #[.pointer (some ⟨w.heap.size + 1 + 1 + 1, 0, none⟩), .pointer (some ⟨w.heap.size + 1 + 1 + 1 + 1, 0, none⟩)]) rfl (enters_of Try.func46 (by kernel_rfl) rfl)
    (needN b.length) (fun k => #[.int .i64 (num + k : Nat), .agg (sv (secK e life num b k)).toArray]) (fun _ => rfl)
    (fun k W => Ext (fun x => x = d ∨ vp.ownBlock = some x ∨ w.heap.size + 3 ≤ x) W1 W ∧ ∃ vp', DiskAt B W d vs vp' S (P ++ (recW (area * (S.length / 2) : Nat) e life num b).take k) ∧ ∀ g, vp'.ownBlock = some g → vp.ownBlock = some g ∨ W1.heap.size + 2 ≤ g)
    ?hI ⟨Ext.refl _ _, vp, by simpa using hd1, fun g h => .inl h⟩ ?hseq ?hround ?hdone
  case hI =>
    rintro k W W' ⟨hE, vp', hdk, hv⟩ hE2
    refine ⟨hE.trans hE2 (fun i hi h => by omega), vp', hdk.ext hE2 (by omega) (fun g hg => by have := hvsl g hg; omega) (fun g hg => ?_), hv⟩
    rcases hv g hg with h | h
    · have := hvpl g h
      omega
    · omega
  case hseq =>
    intro r W hY h0 hE
    refine (sectors1_t (fun k W => (Ext (fun x => x = d ∨ vp.ownBlock = some x ∨ w.heap.size + 3 ≤ x) W1 W ∧ ∃ vp', DiskAt B W d vs vp' S (P ++ (recW (area * (S.length / 2) : Nat) e life num b).take k) ∧ ∀ g, vp'.ownBlock = some g → vp.ownBlock = some g ∨ W1.heap.size + 2 ≤ g) ∧
      W.heap[W1.heap.size + 1]? = some (.loop r) ∧ W.heap[W1.heap.size]? = some (.deferred (some []))) (10 - 1) (W1.heap.size + 1) _ _ e life num _ b W (by omega) hlen he hl hn (hmB.ext hE (fun h => h)) (hbB.ext hE (fun h => h))
      ((hby1.ext hE (fun _ _ _ h => h)).mono (fun x _ h => h.ext hE (fun h => h))) ?_ hY h0).mono ?_
    · rintro k W W' ⟨⟨hE, vp', hdk, hv⟩, hl, hd⟩ hE2
      refine ⟨⟨hE.trans hE2 (fun i hi h => by omega), vp', hdk.ext hE2 (by omega) (fun g hg => by have := hvsl g hg; omega) (fun g hg => ?_), hv⟩, heap_ext hl hE2 (by omega), heap_ext hd hE2 (by omega)⟩
      rcases hv g hg with h | h
      · have := hvpl g h
        omega
      · omega
    · rintro e W' ⟨rfl, h⟩
      exact ⟨⟨_, rfl⟩, h⟩
  case hdone =>
    rintro W ⟨hE, vp', hdk, hv⟩ hK
    refine ⟨by simp, .inl ⟨_, _, rfl, run_takeDeferred hK, ?_⟩⟩
    refine ⟨_, results_none rfl _ _ _, rfl, vp', ?_, ?_⟩
    · rw [List.take_of_length_le (by rw [recW_length]; exact Nat.le_refl _)] at hdk
      refine hdk.ext (ext_putObj _ _ _) (by omega) (fun g hg => by have := hvsl g hg; omega) (fun g hg => ?_)
      rcases hv g hg with h | h
      · have := hvpl g h
        omega
      · omega
    · refine (HE1.out.of_no.trans hE (fun i hi h => ?_)).trans (ext_putObj _ _ _) (fun i hi h => by omega)
      rcases h with h | h | h
      · exact .inl h
      · exact .inr h
      · omega
  case hround =>
    rintro k W K hk ⟨hE, vp', hdk, hv⟩ hsz hnl hK
    have hs32 : (secK e life num b k).length = 32 := secK_length _ _ _ _ _
    obtain ⟨s, hs⟩ : ∃ s, s = secK e life num b k := ⟨_, rfl⟩
    rw [← hs] at hs32 ⊢
    have hsv : (sv s).length = 32 := by rw [sv_length, hs32]
    have hone := sv_one s
    have hsto : ∀ c0 : Array Value, c0.size = 32 → (storeCells ⟨W.heap.size, 0, none⟩ (sv s)).run Try.prog (W.alloc (.cells c0 53)) = .ok () (W.alloc (.cells (sv s).toArray 53)) := fun c0 h0 => by
      have := run_storeCells_new (P := Try.prog) W 53 c0 (sv s).toArray (by rw [sizeSec]; simp [hsv]) (by simp [h0, hsv]) (all_oneCell_toArray hone)
      simpa using this
    have HSZ1 := hide hsz1
    have HE := hide hE
    have HDK := hide hdk
    have HV := hide hv
    have HNL := hide hnl
    have HK := hide hK
    have HS := hide hs
    clear hsz1 hE hdk hv hnl hK hs
    gi_wp2
    refine HK.out _ _ ((Ext.refl NoS _).alloc _) ?_
    clear HK K hsto
    intro W2 hE2
    have hEW : Ext (fun x => x = W1.heap.size + 1) W W2 := ((Ext.refl NoS W).alloc _).of_no.trans' hE2
    have hsz1 := HSZ1.out
    have hd2 : DiskAt B W2 d vs vp' S (P ++ (recW (area * (S.length / 2) : Nat) e life num b).take k) := HDK.out.ext hEW (by omega) (fun g hg => by have := hvsl g hg; omega) (fun g hg => by
      rcases HV.out g hg with h | h
      · have := hvpl g h
        omega
      · omega)
    have hE12 : Ext (fun x => x = d ∨ vp.ownBlock = some x ∨ w.heap.size + 3 ≤ x) W1 W2 := HE.out.trans hEW (fun i _ h => .inr (.inr (by omega)))
    have hsec : W2.rangeAt W.heap.size 0 (sv s) := range_ext (Blk.new W _ _).all hE2 (by omega)
    have hne41 : ∀ (x : Nat) t cs, Blk W1 x t cs → x < w.heap.size + 3 → t ≠ 25 → t ≠ 55 → ¬ (x = d ∨ vp.ownBlock = some x ∨ w.heap.size + 3 ≤ x) := fun x t cs hb hx h1 h2 h => by
      rcases h with h | h | h
      · exact (h ▸ hb).ne_ hd1.blk h1 rfl
      · exact own_ne hd1.pend hb (fun e => h2 e.symm) h
      · omega
    have hjB2 := hjB.ext hE12 (hne41 _ _ _ hjB (by omega) (by decide) (by decide))
    have haB2 := haB.ext hE12 (hne41 _ _ _ haB (by omega) (by decide) (by decide))
    have hjb2 := hj1.ext hE12 (hne41 _ _ _ hj1 (by omega) (by decide) (by decide))
    have hj2 : W2.cell? ⟨j, 0, none⟩ = some (.pointer (some ⟨d, 0, none⟩)) := by rw [hjb2.cell, hj0]
    have hsb2 : Blk W2 W.heap.size 53 (sv s).toArray := (Blk.new W _ _).ext hE2 (by omega)
    have hPn : P.length + k ≤ 3000000 := by
      have : needN b.length ≤ b.length + 1 := by unfold needN; omega
      omega
    have hSof : ∀ w', Ext (fun x => x = d ∨ vp'.ownBlock = some x) W2 w' → w'.cell? ⟨w.heap.size, 0, none⟩ = some (.pointer (some ⟨j, 0, none⟩)) ∧ w'.cell? ⟨w.heap.size + 1, 0, none⟩ = some (.int .i64 area) ∧ w'.cell? ⟨j, 0, none⟩ = some (.pointer (some ⟨d, 0, none⟩)) ∧ w'.rangeAt W.heap.size 0 (sv s) := fun w' h => by
      have hne : ∀ (x : Nat) t cs, Blk W2 x t cs → t ≠ 25 → t ≠ 55 → ¬ (x = d ∨ vp'.ownBlock = some x) := fun x t cs hb h1 h2 h => by
        rcases h with h | h
        · exact (h ▸ hb).ne_ hd2.blk h1 rfl
        · exact own_ne hd2.pend hb (fun e => h2 e.symm) h
      have q1 := (hjB2.ext h (hne _ _ _ hjB2 (by decide) (by decide))).cell 0
      have q2 := (haB2.ext h (hne _ _ _ haB2 (by decide) (by decide))).cell 0
      simp at q1 q2
      refine ⟨q1, q2, ?_, (hsb2.ext h (hne _ _ _ hsb2 (by decide) (by decide))).all⟩
      rw [(hjb2.ext h (hne _ _ _ hjb2 (by decide) (by decide))).cell, hj0]
    obtain ⟨half, hhalf⟩ : ∃ x, x = S.length / 2 := ⟨_, rfl⟩
    obtain ⟨base, hbase⟩ : ∃ x, x = area * half := ⟨_, rfl⟩
    have hbl : base ≤ 1000000 := by
      have : area * half ≤ 1 * half := Nat.mul_le_mul_right _ ha
      omega
    have hmul : IntKind.i64.wrap ((area : Int) * (half : Int)) = (base : Int) := by
      have h2 : (base : Int) = (area : Int) * (half : Int) := by rw [hbase]; simp
      rw [← h2]
      exact IntWalk.i64_in _ (by omega)
    obtain ⟨wr, hwr⟩ : ∃ x : Int × Sec, x = ((base : Int) + ((num : Int) + (k : Int)), s) := ⟨_, rfl⟩
    have HSOF := hide hSof
    have hkb : k ≤ 1000001 := by
      have : needN b.length ≤ b.length + 1 := by unfold needN; omega
      omega
    have hadd : IntKind.i64.wrap ((base : Int) + ((num : Int) + (k : Int))) = (base : Int) + ((num : Int) + (k : Int)) := IntWalk.i64_in _ (by omega)
    obtain ⟨As, csv, rfl, hcsv, _⟩ := own_slice hd2.safe
    have k1 := hjB2.cell 0
    have k2 := haB2.cell 0
    have k3 := hd2.blk.cell 0
    have k4 := hd2.blk.cell 1
    simp at k1 k2 k3 k4
    gi_upto_region 4 with fail
    refine wpIn_region_round (S := fun w' => w'.cell? ⟨w.heap.size, 0, none⟩ = some (.pointer (some ⟨j, 0, none⟩)) ∧ w'.cell? ⟨w.heap.size + 1, 0, none⟩ = some (.int .i64 area) ∧ w'.cell? ⟨j, 0, none⟩ = some (.pointer (some ⟨d, 0, none⟩)) ∧ w'.rangeAt W.heap.size 0 (sv s))
      (by kernel_rfl) (by kernel_rfl) ?_ ⟨k1, k2, hj2, hsec⟩ (fun hH => ?_)
    · rintro ⟨a, w', h⟩
      exact h
    · have hS0 := hH
      refine wpAnyH_take (i := 0) (oi := ⟨some 15, _, _, _, _, _⟩) (v := .pointer (some ⟨j, 0, none⟩)) rfl (by kernel_rfl) (by kernel_rfl) (by kernel_rfl) (fun _ _ _ h => h) (Or.inl ⟨by rfl, fun w' hSw => ?_⟩) hH ?_
      · obtain ⟨s1, s2, s3, s4⟩ := hSw
        go_simp
      simp only [Act.put, List.setIfInBounds_toArray, List.set_cons_zero, List.set_cons_succ]
      refine wpAnyH_take (i := 1) (oi := ⟨some 16, _, _, _, _, _⟩) (v := .pointer (some ⟨j, 0, none⟩)) rfl (by kernel_rfl) (by kernel_rfl) (by kernel_rfl) (fun _ _ _ h => h) (Or.inl ⟨by rfl, fun w' hSw => ?_⟩) hH ?_
      · obtain ⟨s1, s2, s3, s4⟩ := hSw
        go_simp
      simp only [Act.put, List.setIfInBounds_toArray, List.set_cons_zero, List.set_cons_succ]
      refine wpAnyH_take (i := 2) (oi := ⟨some 17, _, _, _, _, _⟩) (v := .pointer (some ⟨j, 0, none⟩)) rfl (by kernel_rfl) (by kernel_rfl) (by kernel_rfl) (fun _ _ _ h => h) (Or.inl ⟨by rfl, fun w' hSw => ?_⟩) hH ?_
      · obtain ⟨s1, s2, s3, s4⟩ := hSw
        go_simp
      simp only [Act.put, List.setIfInBounds_toArray, List.set_cons_zero, List.set_cons_succ]
      refine wpAnyH_take (i := 3) (oi := ⟨some 18, _, _, _, _, _⟩) (v := .pointer (some ⟨d, 0, none⟩)) rfl (by kernel_rfl) (by kernel_rfl) (by kernel_rfl) (fun _ _ _ h => h) (Or.inl ⟨by rfl, fun w' hSw => ?_⟩) hH ?_
      · obtain ⟨s1, s2, s3, s4⟩ := hSw
        go_simp
      simp only [Act.put, List.setIfInBounds_toArray, List.set_cons_zero, List.set_cons_succ]
      refine wpAnyH_take (i := 4) (oi := ⟨some 19, _, _, _, _, _⟩) (v := .pointer (some ⟨j, 0, none⟩)) rfl (by kernel_rfl) (by kernel_rfl) (by kernel_rfl) (fun _ _ _ h => h) (Or.inl ⟨by rfl, fun w' hSw => ?_⟩) hH ?_
      · obtain ⟨s1, s2, s3, s4⟩ := hSw
        go_simp
      simp only [Act.put, List.setIfInBounds_toArray, List.set_cons_zero, List.set_cons_succ]
      refine wpAnyH_take (i := 5) (oi := ⟨some 20, _, _, _, _, _⟩) (v := .pointer (some ⟨j, 0, none⟩)) rfl (by kernel_rfl) (by kernel_rfl) (by kernel_rfl) (fun _ _ _ h => h) (Or.inl ⟨by rfl, fun w' hSw => ?_⟩) hH ?_
      · obtain ⟨s1, s2, s3, s4⟩ := hSw
        go_simp
      simp only [Act.put, List.setIfInBounds_toArray, List.set_cons_zero, List.set_cons_succ]
      refine wpAnyH_take (i := 6) (oi := ⟨some 21, _, _, _, _, _⟩) (v := .pointer (some ⟨j, 0, none⟩)) rfl (by kernel_rfl) (by kernel_rfl) (by kernel_rfl) (fun _ _ _ h => h) (Or.inl ⟨by rfl, fun w' hSw => ?_⟩) hH ?_
      · obtain ⟨s1, s2, s3, s4⟩ := hSw
        go_simp
      simp only [Act.put, List.setIfInBounds_toArray, List.set_cons_zero, List.set_cons_succ]
      refine wpAnyH_take (i := 7) (oi := ⟨some 22, _, _, _, _, _⟩) (v := .pointer (some ⟨d, 0, none⟩)) rfl (by kernel_rfl) (by kernel_rfl) (by kernel_rfl) (fun _ _ _ h => h) (Or.inl ⟨by rfl, fun w' hSw => ?_⟩) hH ?_
      · obtain ⟨s1, s2, s3, s4⟩ := hSw
        go_simp
      simp only [Act.put, List.setIfInBounds_toArray, List.set_cons_zero, List.set_cons_succ]
      refine wpAnyH_take (i := 8) (oi := ⟨some 23, _, _, _, _, _⟩) (v := .pointer (some ⟨d, 0, none⟩)) rfl (by kernel_rfl) (by kernel_rfl) (by kernel_rfl) (fun _ _ _ h => h) (Or.inl ⟨by rfl, fun w' hSw => ?_⟩) hH ?_
      · obtain ⟨s1, s2, s3, s4⟩ := hSw
        go_simp
      simp only [Act.put, List.setIfInBounds_toArray, List.set_cons_zero, List.set_cons_succ]
      refine wpAnyH_take (i := 9) (oi := ⟨some 24, _, _, _, _, _⟩) (v := .pointer (some ⟨d, 1, none⟩)) rfl (by kernel_rfl) (by kernel_rfl) (by kernel_rfl) (fun _ _ _ h => h) (Or.inl ⟨by rfl, fun w' hSw => ?_⟩) hH ?_
      · obtain ⟨s1, s2, s3, s4⟩ := hSw
        go_simp
      simp only [Act.put, List.setIfInBounds_toArray, List.set_cons_zero, List.set_cons_succ]
      refine wpAnyH_take (i := 11) (oi := ⟨some 26, _, _, _, _, _⟩) (v := .int .i64 area) rfl (by kernel_rfl) (by kernel_rfl) (by kernel_rfl) (fun _ _ _ h => h) (Or.inl ⟨by rfl, fun w' hSw => ?_⟩) hH ?_
      · obtain ⟨s1, s2, s3, s4⟩ := hSw
        go_simp
      simp only [Act.put, List.setIfInBounds_toArray, List.set_cons_zero, List.set_cons_succ]
      refine wpAnyH_take (i := 12) (oi := ⟨some 27, _, _, _, _, _⟩) (v := .pointer (some ⟨j, 0, none⟩)) rfl (by kernel_rfl) (by kernel_rfl) (by kernel_rfl) (fun _ _ _ h => h) (Or.inl ⟨by rfl, fun w' hSw => ?_⟩) hH ?_
      · obtain ⟨s1, s2, s3, s4⟩ := hSw
        go_simp
      simp only [Act.put, List.setIfInBounds_toArray, List.set_cons_zero, List.set_cons_succ]
      refine wpAnyH_take (i := 15) (oi := ⟨some 30, _, _, _, _, _⟩) (v := .int .i64 ((num : Int) + k)) rfl (by kernel_rfl) (by kernel_rfl) (by kernel_rfl) (fun _ _ _ h => h) (Or.inl ⟨by rfl, fun w' hSw => ?_⟩) hH ?_
      · obtain ⟨s1, s2, s3, s4⟩ := hSw
        go_simp
      simp only [Act.put, List.setIfInBounds_toArray, List.set_cons_zero, List.set_cons_succ]
      refine wpAnyH_take (i := 17) (oi := ⟨some 32, _, _, _, _, _⟩) (v := .agg (sv s).toArray) rfl (by kernel_rfl) (by kernel_rfl) (by kernel_rfl) (fun _ _ _ h => h) (yieldsIf_load_mid (by rfl) _ _ rfl _ _ rfl _ _ (fun w' hSw => hSw.2.2.2) Try.underlying53 rfl (by rw [sizeSec, hsv])) hH ?_
      simp only [Act.put, List.setIfInBounds_toArray, List.set_cons_zero, List.set_cons_succ]
      have k3d : W2.drew.cell? ⟨d, 0, none⟩ = some (.slice As S.length csv) := k3
      have k4d : W2.drew.cell? ⟨d, 1, none⟩ = some vp' := k4
      have hsz34 := size_t j d S.length csv As W2.drew (by exact hj2) (by exact k3) (by omega)
      rw [← hhalf] at hsz34
      have HSIZE := hide hsz34; clear hsz34
      obtain ⟨Pk, hPk⟩ : ∃ x, x = P ++ (recW (area * (S.length / 2) : Nat) e life num b).take k := ⟨_, rfl⟩
      rw [← hPk] at hd2
      have hPkl : Pk.length ≤ 3000000 := by rw [hPk, List.length_append, List.length_take, recW_length]; omega
      have hwr32 : wr.2.length = 32 := by rw [hwr]; exact hs32
      have hPk1 : P ++ (recW (area * (S.length / 2) : Nat) e life num b).take (k + 1) = Pk ++ [wr] := by
        rw [hPk, List.append_assoc, List.take_succ_eq_append_getElem (by rw [recW_length]; exact hk)]
        congr 2
        have h1 : (recW (area * (S.length / 2) : Nat) e life num b)[k]'(by rw [recW_length]; exact hk) = (((area * (S.length / 2) : Nat) : Int) + ((num + k : Nat) : Int), secK e life num b k) := by
          simp only [recW, List.getElem_map, List.getElem_range]
        rw [h1, hwr, ← HS.out, hbase, hhalf]
        simp
      have hBW : B ≤ W2.heap.size := by
        have h1 := HE1.out.size
        have h2 := HE.out.size
        have h3 := hEW.size
        omega
      have hfin : ∀ (v' : Value) (w6 : World), Ext (fun x => x = d ∨ vp'.ownBlock = some x) W2 w6 → DiskAt B w6 d (.slice As S.length csv) v' S (Pk ++ [wr]) → (v'.ownBlock = vp'.ownBlock ∨ v'.ownBlock = some (W2.heap.size + 1)) →
          rPost (fun W => Ext (fun x => x = d ∨ vp.ownBlock = some x ∨ w.heap.size + 3 ≤ x) W1 W ∧ ∃ vp', DiskAt B W d (.slice As S.length csv) vp' S (P ++ (recW (area * (S.length / 2) : Nat) e life num b).take (k + 1)) ∧ ∀ g, vp'.ownBlock = some g → vp.ownBlock = some g ∨ W1.heap.size + 2 ≤ g) W2 .normal { tmps := #[], defers := [] } w6 := fun v' w6 h6 hdd hor => by
        refine ⟨h6.mono (fun i _ h => ?_), ?_, v', by rw [hPk1]; exact hdd, fun g hg => ?_⟩
        · rcases h with h | h
          · exact ⟨_, _, .inl rfl, h ▸ hd2.blk⟩
          · obtain ⟨cur, hc, _⟩ := own_blk hd2.pend h
            exact ⟨_, _, .inr rfl, hc⟩
        · have h7 := hE12.trans h6 (fun i hi h => by
            rcases h with h | h
            · exact .inl h
            · rcases HV.out i h with h | h
              · exact .inr (.inl h)
              · omega)
          exact h7
        · rcases hor with h | h
          · exact HV.out g (h ▸ hg)
          · rw [h] at hg
            injection hg with hg
            have := hEW.size
            right
            omega
      have HFIN := hide hfin; clear hfin hPk1 hPk
      have HD2 := hide hd2
      have k4a : (W2.alloc (.cells (wv wr).toArray 55)).drew.cell? ⟨d, 1, none⟩ = some vp' := (((Ext.refl NoS W2).alloc _).drew).cell k4 (fun h => h)
      have HHALF := hide hhalf
      have HBASE := hide hbase
      have hwl : (wv wr).length = 33 := by rw [wv_length, hwr, hs32]
      have hfold : ∀ c0 : Array Value, c0.size = 33 → (wv wr).zipIdx.foldl (fun cs (y : Value × Nat) => cs.setIfInBounds y.2 y.1) c0 = (wv wr).toArray := fun c0 h0 => build_row _ _ (by rw [h0, hwl])
      have HWR := hide hwr
      clear hsz1 hhalf hbase hwr hS0 hE2 hEW hE12 hne41
      refine wpAnyH_ready (rs := [10, 13]) (by kernel_rfl) (by simp) (AllReadyH.cons rfl (fun K' hK => ?_) (AllReadyH.cons rfl (fun K' hK => ?_) AllReadyH.nil))
      · go_simp
        refine hK.out _ _ hH (fun _ => ?_)
        clear hK K'
        try simp only [Act.put, List.setIfInBounds_toArray, List.set_cons_zero, List.set_cons_succ]
        refine wpAnyH_ready (rs := [13]) (by kernel_rfl) (by simp) (AllReadyH.cons rfl (fun K' hK => ?_) AllReadyH.nil)
        go_simp
        refine HSIZE.out.mono ?_
        rintro e' w' ⟨rfl, rfl⟩
        refine hK.out _ _ hH (fun _ => ?_)
        clear hK K'
        try simp only [Act.put, List.setIfInBounds_toArray, List.set_cons_zero, List.set_cons_succ]
        refine wpAnyH_take (i := 14) (oi := ⟨some 29, _, _, _, _, _⟩) (v := .int .i64 base) rfl (by kernel_rfl) (by kernel_rfl) (by kernel_rfl) (fun _ _ _ h => h) (Or.inl ⟨by rfl, fun w' hSw => ?_⟩) hH ?_
        · obtain ⟨s1, s2, s3, s4⟩ := hSw
          go_simp
        try simp only [Act.put, List.setIfInBounds_toArray, List.set_cons_zero, List.set_cons_succ]
        refine wpAnyH_take (i := 16) (oi := ⟨some 31, _, _, _, _, _⟩) (v := .int .i64 ((base : Int) + ((num : Int) + (k : Int)))) rfl (by kernel_rfl) (by kernel_rfl) (by kernel_rfl) (fun _ _ _ h => h) (Or.inl ⟨by rfl, fun w' hSw => ?_⟩) hH ?_
        · obtain ⟨s1, s2, s3, s4⟩ := hSw
          go_simp
        try simp only [Act.put, List.setIfInBounds_toArray, List.set_cons_zero, List.set_cons_succ]
        refine wpAnyH_take (i := 18) (oi := ⟨some 33, _, _, _, _, _⟩) (v := .agg (wv wr).toArray) rfl (by kernel_rfl) (by kernel_rfl) (by kernel_rfl) (fun _ _ _ h => h) (Or.inl ⟨by rfl, fun w' hSw => ?_⟩) hH ?_
        · go_simp
          rw [HWR.out]
          exact build_cells _ (List.replicate 32 (.int .u8 0)) (sv s) (by simp [hsv])
        try simp only [Act.put, List.setIfInBounds_toArray, List.set_cons_zero, List.set_cons_succ]
        refine wpAnyH_ready (rs := [19]) (by kernel_rfl) (by simp) (AllReadyH.cons rfl (fun K' hK => ?_) AllReadyH.nil)
        go_simp
        refine hK.out _ _ (HSOF.out _ (((Ext.refl NoS W2).alloc _).drew).of_no) (fun _ => ?_)
        clear hK K'
        try simp only [Act.put, List.setIfInBounds_toArray, List.set_cons_zero, List.set_cons_succ]
        refine wpAnyH_ready (rs := [20]) (by kernel_rfl) (by simp) (AllReadyH.cons rfl (fun K' hK => ?_) AllReadyH.nil)
        refine step_append_any rfl _ _ 23 rfl B 55 _ 33 40 Try.underlying23 infoWr rfl (by decide) vp' Pk.length (Pk.flatMap wv) rfl (own_ext HD2.out.pend (((Ext.refl NoS W2).alloc _).drew) (fun _ _ h => h)) (some ⟨W2.heap.size, 0, none⟩) 1 1 (wv wr) rfl (by rw [hwl]) (fun _ => ⟨_, _, rfl, (Blk.new W2 _ _).all⟩) (wv_one wr) (by unfold maxLen; omega) (by omega) (by simp [World.drew]; omega) ?_
        intro v' w5 ho5 hg5 hor5
        obtain ⟨h6, hd6, hb5, h5⟩ := disk_push HD2.out (((Ext.refl NoS W2).alloc _).drew) hg5 ho5 hwr32
        obtain ⟨A5, c5, hv5, _, _⟩ := own_slice ho5
        subst hv5
        clear hg5 ho5
        have HD6 := hide hd6
        have H6 := hide h6
        have H5 := hide h5
        have HOR := hide hor5
        clear hd6 h6 h5 hor5
        have d1 := hb5.cell 1
        have e1 := hb5.frozen 1
        simp at d1
        refine hK.out _ _ (HSOF.out _ H5.out) (fun _ => ?_)
        clear hK K'
        try simp only [Act.put, List.setIfInBounds_toArray]
        have hH5 := HSOF.out _ H5.out
        refine wpAnyH_take (i := 21) (oi := ⟨some 36, _, _, _, _, _⟩) (v := .pointer (some ⟨d, 0, none⟩)) rfl (by kernel_rfl) (by kernel_rfl) (by kernel_rfl) (fun _ _ _ h => h) (Or.inl ⟨by rfl, fun w' hSw => ?_⟩) hH5 ?_
        · obtain ⟨s1, s2, s3, s4⟩ := hSw
          go_simp
        try simp only [Act.put]
        refine wpAnyH_take (i := 22) (oi := ⟨some 37, _, _, _, _, _⟩) (v := .pointer (some ⟨d, 1, none⟩)) rfl (by kernel_rfl) (by kernel_rfl) (by kernel_rfl) (fun _ _ _ h => h) (Or.inl ⟨by rfl, fun w' hSw => ?_⟩) hH5 ?_
        · obtain ⟨s1, s2, s3, s4⟩ := hSw
          go_simp
        try simp only [Act.put]
        refine wpAnyH_ready (rs := [23]) (by kernel_rfl) (by simp) (AllReadyH.cons rfl (fun K' hK => ?_) AllReadyH.nil)
        go_simp
        refine hK.out _ _ (HSOF.out _ H6.out) (fun _ => ?_)
        clear hK K'
        try simp only [Act.put, List.setIfInBounds_toArray, List.set_cons_zero, List.set_cons_succ]
        refine wpAnyH_done (by kernel_rfl) ?_ _
        gi_wp2
        exact HFIN.out _ _ H6.out HD6.out (HOR.out.imp id (fun h => by rw [h]; simp [World.drew]))
      · go_simp
        refine HSIZE.out.mono ?_
        rintro e' w' ⟨rfl, rfl⟩
        refine hK.out _ _ hH (fun _ => ?_)
        clear hK K'
        try simp only [Act.put, List.setIfInBounds_toArray, List.set_cons_zero, List.set_cons_succ]
        refine wpAnyH_take (i := 14) (oi := ⟨some 29, _, _, _, _, _⟩) (v := .int .i64 base) rfl (by kernel_rfl) (by kernel_rfl) (by kernel_rfl) (fun _ _ _ h => h) (Or.inl ⟨by rfl, fun w' hSw => ?_⟩) hH ?_
        · obtain ⟨s1, s2, s3, s4⟩ := hSw
          go_simp
        try simp only [Act.put, List.setIfInBounds_toArray, List.set_cons_zero, List.set_cons_succ]
        refine wpAnyH_take (i := 16) (oi := ⟨some 31, _, _, _, _, _⟩) (v := .int .i64 ((base : Int) + ((num : Int) + (k : Int)))) rfl (by kernel_rfl) (by kernel_rfl) (by kernel_rfl) (fun _ _ _ h => h) (Or.inl ⟨by rfl, fun w' hSw => ?_⟩) hH ?_
        · obtain ⟨s1, s2, s3, s4⟩ := hSw
          go_simp
        try simp only [Act.put, List.setIfInBounds_toArray, List.set_cons_zero, List.set_cons_succ]
        refine wpAnyH_take (i := 18) (oi := ⟨some 33, _, _, _, _, _⟩) (v := .agg (wv wr).toArray) rfl (by kernel_rfl) (by kernel_rfl) (by kernel_rfl) (fun _ _ _ h => h) (Or.inl ⟨by rfl, fun w' hSw => ?_⟩) hH ?_
        · go_simp
          rw [HWR.out]
          exact build_cells _ (List.replicate 32 (.int .u8 0)) (sv s) (by simp [hsv])
        try simp only [Act.put, List.setIfInBounds_toArray, List.set_cons_zero, List.set_cons_succ]
        refine wpAnyH_ready (rs := [10, 19]) (by kernel_rfl) (by simp) (AllReadyH.cons rfl (fun K' hK => ?_) (AllReadyH.cons rfl (fun K' hK => ?_) AllReadyH.nil))
        · go_simp
          refine hK.out _ _ hH (fun _ => ?_)
          clear hK K'
          try simp only [Act.put, List.setIfInBounds_toArray, List.set_cons_zero, List.set_cons_succ]
          refine wpAnyH_ready (rs := [19]) (by kernel_rfl) (by simp) (AllReadyH.cons rfl (fun K' hK => ?_) AllReadyH.nil)
          go_simp
          refine hK.out _ _ (HSOF.out _ (((Ext.refl NoS W2).alloc _).drew).of_no) (fun _ => ?_)
          clear hK K'
          try simp only [Act.put, List.setIfInBounds_toArray, List.set_cons_zero, List.set_cons_succ]
          refine wpAnyH_ready (rs := [20]) (by kernel_rfl) (by simp) (AllReadyH.cons rfl (fun K' hK => ?_) AllReadyH.nil)
          refine step_append_any rfl _ _ 23 rfl B 55 _ 33 40 Try.underlying23 infoWr rfl (by decide) vp' Pk.length (Pk.flatMap wv) rfl (own_ext HD2.out.pend (((Ext.refl NoS W2).alloc _).drew) (fun _ _ h => h)) (some ⟨W2.heap.size, 0, none⟩) 1 1 (wv wr) rfl (by rw [hwl]) (fun _ => ⟨_, _, rfl, (Blk.new W2 _ _).all⟩) (wv_one wr) (by unfold maxLen; omega) (by omega) (by simp [World.drew]; omega) ?_
          intro v' w5 ho5 hg5 hor5
          obtain ⟨h6, hd6, hb5, h5⟩ := disk_push HD2.out (((Ext.refl NoS W2).alloc _).drew) hg5 ho5 hwr32
          obtain ⟨A5, c5, hv5, _, _⟩ := own_slice ho5
          subst hv5
          clear hg5 ho5
          have HD6 := hide hd6
          have H6 := hide h6
          have H5 := hide h5
          have HOR := hide hor5
          clear hd6 h6 h5 hor5
          have d1 := hb5.cell 1
          have e1 := hb5.frozen 1
          simp at d1
          refine hK.out _ _ (HSOF.out _ H5.out) (fun _ => ?_)
          clear hK K'
          try simp only [Act.put, List.setIfInBounds_toArray]
          have hH5 := HSOF.out _ H5.out
          refine wpAnyH_take (i := 21) (oi := ⟨some 36, _, _, _, _, _⟩) (v := .pointer (some ⟨d, 0, none⟩)) rfl (by kernel_rfl) (by kernel_rfl) (by kernel_rfl) (fun _ _ _ h => h) (Or.inl ⟨by rfl, fun w' hSw => ?_⟩) hH5 ?_
          · obtain ⟨s1, s2, s3, s4⟩ := hSw
            go_simp
          try simp only [Act.put]
          refine wpAnyH_take (i := 22) (oi := ⟨some 37, _, _, _, _, _⟩) (v := .pointer (some ⟨d, 1, none⟩)) rfl (by kernel_rfl) (by kernel_rfl) (by kernel_rfl) (fun _ _ _ h => h) (Or.inl ⟨by rfl, fun w' hSw => ?_⟩) hH5 ?_
          · obtain ⟨s1, s2, s3, s4⟩ := hSw
            go_simp
          try simp only [Act.put]
          refine wpAnyH_ready (rs := [23]) (by kernel_rfl) (by simp) (AllReadyH.cons rfl (fun K' hK => ?_) AllReadyH.nil)
          go_simp
          refine hK.out _ _ (HSOF.out _ H6.out) (fun _ => ?_)
          clear hK K'
          try simp only [Act.put, List.setIfInBounds_toArray, List.set_cons_zero, List.set_cons_succ]
          refine wpAnyH_done (by kernel_rfl) ?_ _
          gi_wp2
          exact HFIN.out _ _ H6.out HD6.out (HOR.out.imp id (fun h => by rw [h]; simp [World.drew]))
        · go_simp
          refine hK.out _ _ (HSOF.out _ (((Ext.refl NoS W2).alloc _).drew).of_no) (fun _ => ?_)
          clear hK K'
          try simp only [Act.put, List.setIfInBounds_toArray, List.set_cons_zero, List.set_cons_succ]
          refine wpAnyH_ready (rs := [10]) (by kernel_rfl) (by simp) (AllReadyH.cons rfl (fun K' hK => ?_) AllReadyH.nil)
          go_simp
          refine hK.out _ _ (HSOF.out _ (((Ext.refl NoS W2).alloc _).drew).of_no) (fun _ => ?_)
          clear hK K'
          try simp only [Act.put, List.setIfInBounds_toArray, List.set_cons_zero, List.set_cons_succ]
          refine wpAnyH_ready (rs := [20]) (by kernel_rfl) (by simp) (AllReadyH.cons rfl (fun K' hK => ?_) AllReadyH.nil)
          refine step_append_any rfl _ _ 23 rfl B 55 _ 33 40 Try.underlying23 infoWr rfl (by decide) vp' Pk.length (Pk.flatMap wv) rfl (own_ext HD2.out.pend (((Ext.refl NoS W2).alloc _).drew) (fun _ _ h => h)) (some ⟨W2.heap.size, 0, none⟩) 1 1 (wv wr) rfl (by rw [hwl]) (fun _ => ⟨_, _, rfl, (Blk.new W2 _ _).all⟩) (wv_one wr) (by unfold maxLen; omega) (by omega) (by simp [World.drew]; omega) ?_
          intro v' w5 ho5 hg5 hor5
          obtain ⟨h6, hd6, hb5, h5⟩ := disk_push HD2.out (((Ext.refl NoS W2).alloc _).drew) hg5 ho5 hwr32
          obtain ⟨A5, c5, hv5, _, _⟩ := own_slice ho5
          subst hv5
          clear hg5 ho5
          have HD6 := hide hd6
          have H6 := hide h6
          have H5 := hide h5
          have HOR := hide hor5
          clear hd6 h6 h5 hor5
          have d1 := hb5.cell 1
          have e1 := hb5.frozen 1
          simp at d1
          refine hK.out _ _ (HSOF.out _ H5.out) (fun _ => ?_)
          clear hK K'
          try simp only [Act.put, List.setIfInBounds_toArray]
          have hH5 := HSOF.out _ H5.out
          refine wpAnyH_take (i := 21) (oi := ⟨some 36, _, _, _, _, _⟩) (v := .pointer (some ⟨d, 0, none⟩)) rfl (by kernel_rfl) (by kernel_rfl) (by kernel_rfl) (fun _ _ _ h => h) (Or.inl ⟨by rfl, fun w' hSw => ?_⟩) hH5 ?_
          · obtain ⟨s1, s2, s3, s4⟩ := hSw
            go_simp
          try simp only [Act.put]
          refine wpAnyH_take (i := 22) (oi := ⟨some 37, _, _, _, _, _⟩) (v := .pointer (some ⟨d, 1, none⟩)) rfl (by kernel_rfl) (by kernel_rfl) (by kernel_rfl) (fun _ _ _ h => h) (Or.inl ⟨by rfl, fun w' hSw => ?_⟩) hH5 ?_
          · obtain ⟨s1, s2, s3, s4⟩ := hSw
            go_simp
          try simp only [Act.put]
          refine wpAnyH_ready (rs := [23]) (by kernel_rfl) (by simp) (AllReadyH.cons rfl (fun K' hK => ?_) AllReadyH.nil)
          go_simp
          refine hK.out _ _ (HSOF.out _ H6.out) (fun _ => ?_)
          clear hK K'
          try simp only [Act.put, List.setIfInBounds_toArray, List.set_cons_zero, List.set_cons_succ]
          refine wpAnyH_done (by kernel_rfl) ?_ _
          gi_wp2
          exact HFIN.out _ _ H6.out HD6.out (HOR.out.imp id (fun h => by rw [h]; simp [World.drew]))
end Go.Proofs.Ytmhhfhmpdpgmbaa
