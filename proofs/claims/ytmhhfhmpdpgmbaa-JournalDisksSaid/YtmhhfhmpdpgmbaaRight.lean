/- right. -/
import Derived.Test.YtmhhfhmpdpgmbaaNew
namespace Go.Proofs.Ytmhhfhmpdpgmbaa
open Go.RowKit

def outside (n : Nat) (x : Int × Sec) : Bool := decide (x.1 < 0) || decide ((n : Int) ≤ x.1)

set_option maxRecDepth 100000 in
set_option maxHeartbeats 2000000 in
theorem right1_t (w : World) (x : Int × Sec) (bx d n c : Nat) (A : Option Addr) (h1 : w.cell? ⟨bx, 0, none⟩ = some (.pointer (some ⟨d, 0, none⟩))) (h2 : w.cell? ⟨d, 0, none⟩ = some (.slice A n c)) :
    Calls Try.prog 44 #[.agg (wv x).toArray, .pointer (some ⟨bx, 0, none⟩)] w fun e w' => e = .returned (.bool (outside n x)) ∧ Ext NoS w w' := by
  go_enter Try.func44, Try.ntmps44
  go_upto_region 1 with fail
  refine wp_world (fun W => Ext NoS w W ∧ W.cell? ⟨w.heap.size, 0, none⟩ = some (.int .i64 x.1)) ⟨(Ext.refl _ _).alloc _, ?_⟩ ?_
  · rw [(Blk.new w _ _).cell]; rfl
  rintro W ⟨hE, k0⟩
  have k1 := hE.cell h1 (fun h => h)
  have k2 := hE.cell h2 (fun h => h)
  have HE := hide hE
  clear h1 h2 hE
  by_cases hn : x.1 < 0
  · have hd : decide (x.1 < 0) = true := decide_eq_true hn
    go_quiet (fail)
    go_wp2
    go_ret
    exact ⟨by simp [outside, hn], HE.out.drewN _⟩
  · have hd : decide (x.1 < 0) = false := decide_eq_false hn
    go_quiet (fail)
    go_wp2
    go_ret
    refine ⟨?_, HE.out.drewN _⟩
    unfold outside
    rw [hd, Bool.false_or]
    rfl

def IndexPost (ns : Nat) (P : List (Int × Sec)) (w : World) (e : Ending) (w' : World) : Prop := ∃ i : Int, e = .returned (.int .i64 i) ∧ decide (0 ≤ i) = P.any (outside ns) ∧ Ext NoS w w'
theorem any_take {P : List (Int × Sec)} {f : Int × Sec → Bool} (k : Nat) (hk : k < P.length) : (P.take (k + 1)).any f = ((P.take k).any f || f P[k]) := by
  rw [List.take_succ_eq_append_getElem hk, List.any_append]; simp

set_option maxRecDepth 100000 in
set_option maxHeartbeats 2000000 in
theorem index_t (w : World) (B bx d ns cs : Nat) (A : Option Addr) (vp : Value) (P : List (Int × Sec)) (h1 : w.cell? ⟨bx, 0, none⟩ = some (.pointer (some ⟨d, 0, none⟩))) (h2 : w.cell? ⟨d, 0, none⟩ = some (.slice A ns cs))
    (hp : w.ownsRow B 55 33 vp P.length (P.flatMap wv)) (h32 : ∀ x ∈ P, x.2.length = 32) (hP : P.length ≤ 1000000) :
    Calls Try.prog 47 #[vp, .func (.func 44) #[] #[.pointer (some ⟨bx, 0, none⟩)]] w (IndexPost ns P w) := by
  obtain ⟨Ap, cp, rfl, hcp, _⟩ := own_slice hp
  have hel : ∀ k (hk : k < P.length), ∃ g, Ap = some ⟨g, 0, none⟩ ∧ w.rangeAt g (k * 33) (wv P[k]) := fun k hk => by
    rcases hp.2 with ⟨hv, h0⟩ | ⟨g, cap, cur, hv, _⟩
    · omega
    · have hA : Ap = some ⟨g, 0, none⟩ := by injection hv
      subst hA
      exact ⟨g, rfl, own_elem hp (fun x hx => by rw [wv_length, h32 x hx]) rfl k hk⟩
  have HEL := hide hel
  have H32 := hide h32
  clear hel hp h32
  go_enter Try.func47, Try.ntmps47
  go_wp2
  go_loopw [8] (fun v8 wr => ∃ k : Nat, k ≤ P.length ∧ v8 = .int .i64 k ∧ (P.take k).any (outside ns) = false ∧ Ext NoS w wr) (fun i _ => P.length - (intOf i).toNat)
  case atStart => exact ⟨0, Nat.zero_le _, rfl, rfl, Ext.refl _ _⟩
  case round =>
    obtain ⟨k, hk, rfl, hany, hE⟩ := hrel
    by_cases hlt : k < P.length
    · obtain ⟨g, rfl, hr⟩ := HEL.out k hlt
      have hr2 := range_ext hr hE (fun h => h)
      obtain ⟨x, hx⟩ : ∃ x, x = P[k] := ⟨_, rfl⟩
      rw [← hx] at hr2
      have hx32 : x.2.length = 32 := by rw [hx]; exact H32.out _ (List.getElem_mem _)
      have hsz : (Try.prog.info? 55).map (·.size) = some (wv x).length := by rw [sizeWr, wv_length, hx32]
      have k1 := hE.cell h1 (fun h => h)
      have k2 := hE.cell h2 (fun h => h)
      have HX := hide hx
      have HE := hide hE
      have HANY := hide hany
      have HR := hide hr2
      clear hx hE hany hr2 hr
      go_wp2_with (first
        | ((with_reducible refine wpList_load_mid (op := ⟨some 15, _, _, _, _, _⟩) rfl 55 _ rfl g (k * 33) ?_ (wv x) _ HR.out Try.underlying55 rfl hsz ?_); exact rfl)
        | (go_at_call 44; refine (right1_t _ x bx d ns cs A k1 k2).mono ?_; rintro e w3 ⟨rfl, hE3⟩; have HE3 := hide hE3; clear hE3))
      · go_ret
        refine ⟨k, rfl, ?_, HE.out.trans' HE3.out⟩
        have hm : P.any (outside ns) = true := List.any_eq_true.2 ⟨x, by rw [HX.out]; exact List.getElem_mem _, by assumption⟩
        rw [hm]
        exact decide_eq_true (by omega)
      · refine ⟨⟨k + 1, hlt, by go_num, ?_, HE.out.trans' HE3.out⟩, by simp [intOf]; omega⟩
        rw [any_take k hlt, HANY.out, ← HX.out]
        simpa
    · have hke : P.take k = P := List.take_of_length_le (by omega)
      rw [hke] at hany
      have HE := hide hE
      have HANY := hide hany
      clear hE hany hke
      go_wp2
      go_ret
      exact ⟨-1, rfl, by rw [HANY.out]; rfl, HE.out⟩

theorem contains_t (w : World) (B bx d ns cs : Nat) (A : Option Addr) (vp : Value) (P : List (Int × Sec)) (h1 : w.cell? ⟨bx, 0, none⟩ = some (.pointer (some ⟨d, 0, none⟩))) (h2 : w.cell? ⟨d, 0, none⟩ = some (.slice A ns cs))
    (hp : w.ownsRow B 55 33 vp P.length (P.flatMap wv)) (h32 : ∀ x ∈ P, x.2.length = 32) (hP : P.length ≤ 1000000) :
    Calls Try.prog 43 #[vp, .func (.func 44) #[] #[.pointer (some ⟨bx, 0, none⟩)]] w fun e w' => e = .returned (.bool (P.any (outside ns))) ∧ Ext NoS w w' := by
  have hix := index_t w B bx d ns cs A vp P h1 h2 hp h32 hP
  have HIX := hide hix
  clear hix hp h32
  go_enter Try.func43, Try.ntmps43
  go_wp2_with (go_at_call 47; refine HIX.out.mono ?_; rintro e w3 ⟨i, rfl, hi, hE⟩; have HI := hide hi; clear hi; have HE := hide hE; clear hE)
  go_ret
  exact ⟨congrArg (fun b => Ending.returned (.bool b)) HI.out, HE.out⟩

def rightB (S : List Sec) (P : List (Int × Sec)) : Bool := decide (4 ≤ S.length) && decide (S.length ≤ 32768) && !P.any (outside S.length)
set_option maxRecDepth 100000 in
set_option maxHeartbeats 2000000 in
theorem right_t (w : World) (B d : Nat) (vs vp : Value) (S : List Sec) (P : List (Int × Sec)) (h : DiskAt B w d vs vp S P) (hS : S.length ≤ 1000000) (hP : P.length ≤ 1000000) :
    Calls Try.prog 38 #[.pointer (some ⟨d, 0, none⟩)] w fun e w' => e = .returned (.bool (rightB S P)) ∧ Ext NoS w w' := by
  obtain ⟨As, cs, rfl, hcs, _⟩ := own_slice h.safe
  have k0 := h.blk.cell 0
  have k1 := h.blk.cell 1
  simp at k0 k1
  obtain ⟨Ap, cp, rfl, hcp, _⟩ := own_slice h.pend
  have HD := hide h
  clear h
  go_enter Try.func38, Try.ntmps38
  go_upto_region 1 with fail
  refine wp_world (fun W => Ext NoS w W ∧ W.cell? ⟨w.heap.size, 0, none⟩ = some (.pointer (some ⟨d, 0, none⟩))) ⟨(Ext.refl _ _).alloc _, by rw [(Blk.new w _ _).cell]; rfl⟩ ?_
  rintro W ⟨hE, kb⟩
  have q0 := hE.cell k0 (fun h => h)
  have q1 := hE.cell k1 (fun h => h)
  have hd := HD.out.no hE
  have hcon := contains_t W B w.heap.size d S.length cs As _ P kb q0 hd.pend hd.p32 hP
  have HCON := hide hcon
  have HE := hide hE
  clear hcon hE hd k0 k1 HD
  by_cases h1 : 4 ≤ S.length
  · by_cases h2 : S.length ≤ 32768
    · go_wp2_with (go_at_call 43; refine HCON.out.mono ?_; rintro e w3 ⟨rfl, hE⟩; have HE3 := hide hE; clear hE)
      go_ret
      exact ⟨by simp [rightB, h1, h2], HE.out.trans' HE3.out⟩
    · go_wp2
      go_ret
      exact ⟨by simp [rightB, h1, h2], HE.out⟩
  · go_wp2
    go_ret
    exact ⟨by simp [rightB, h1], HE.out⟩
end Go.Proofs.Ytmhhfhmpdpgmbaa
