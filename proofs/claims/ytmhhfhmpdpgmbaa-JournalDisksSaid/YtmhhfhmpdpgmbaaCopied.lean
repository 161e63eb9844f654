/- copied: a disk of its own. -/
import Derived.Test.YtmhhfhmpdpgmbaaKeepM
import Derived.Deep.RegionLaw
namespace Go.Proofs.Ytmhhfhmpdpgmbaa
open Go.RowKit

theorem own_at_empty {w : World} {e : TypeId} {size g m : Nat} (hb : Blk w g e #[]) (hg : m ≤ g) : w.ownsRow m e size (.slice (some ⟨g, 0, none⟩) 0 0) 0 [] :=
  ⟨by simp, .inr ⟨g, 0, #[], rfl, hg, hb, Nat.le_refl _, by unfold maxLen; omega, by simp, by simp⟩⟩
theorem Blk.new' {w : World} {g : Nat} (t : TypeId) (cs : Array Value) (h : g = w.heap.size) : Blk (w.alloc (.cells cs t)) g t cs := h ▸ Blk.new w t cs
theorem Blk.grown' {w w' : World} {g x : Nat} {t t' : TypeId} {cs cs' : Array Value} (h : Blk w g t cs) (hb : w.grownBy w' (Value.ownBlock (.slice (some ⟨x, 0, none⟩) 0 0))) (hx : Blk w x t' cs') (hne : t ≠ t') : Blk w' g t cs :=
  h.grown hb (fun e => h.ne_ hx hne (by injection e with e; exact e.symm))
theorem own_grown' {w w' : World} {m size n x : Nat} {e t' : TypeId} {v : Value} {xs : List Value} {cs' : Array Value} (h : w.ownsRow m e size v n xs) (hb : w.grownBy w' (Value.ownBlock (.slice (some ⟨x, 0, none⟩) 0 0))) (hx : Blk w x t' cs') (hne : e ≠ t') : w'.ownsRow m e size v n xs :=
  own_ext h (Ext.of_grown hb) (fun g hg e => own_ne h hx hne (by injection e with e; rw [hg, ← e]))

theorem step_append_new {P : Program} {w : World} {ops : Array Oper} {o : Oper} {a : Act} {K : Act → World → Prop} {Q : Exit → Act → World → Prop} {E : Prop} (hgd : o.guard = none) (s x : Operand) (t : TypeId)
    (ho : o.op = .call { callee := .builtin .append, args := #[s, x], argTypes := #[t, t] }) (e : TypeId) (z : Value) (size bytes : Nat) (ht : P.underlying t = some (.slice e)) (hinfo : (P.info? e).map (fun i => (i.zero, i.size, i.bytes)) = some (some z, size, bytes))
    (hzs : z.cells.size = size) (hsz : 0 < size) (g : Nat) (hs : a.eval s = .slice (some ⟨g, 0, none⟩) 0 0) (m0 : Nat) (hb : Blk w g e #[]) (hle : m0 ≤ g)
    (A : Option Addr) (m c : Nat) (news : List Value) (hx : a.eval x = .slice A m c) (hl : news.length = m * size) (hnews : news ≠ [] → ∃ b o, A = some ⟨b, o, none⟩ ∧ w.rangeAt b o news) (h1 : ∀ u ∈ news, u.oneCell' = true)
    (h63 : m ≤ maxLen) (hbytes : m * bytes ≤ 140737488355328)
    (h : ∀ A' c' w', Blk w g e #[] → w'.ownsRow m0 e size (.slice A' m c') m news → w.grownBy w' (Value.ownBlock (.slice (some ⟨g, 0, none⟩) 0 0)) → K (a.put o.dst (.slice A' m c')) w') :
    if Region.wanted o (yielded ops a.tmps) = true then Oper.wp P o a w K Q else E :=
  step_append_any hgd s x t ho m0 e z size bytes ht hinfo hzs hsz _ 0 [] hs (own_at_empty hb hle) A m c news hx hl hnews h1 (by omega) (by rw [Nat.zero_add]; exact hbytes) (by have := hb.lt; omega) fun v' w' ho hg _ => by
    rw [Nat.zero_add, List.nil_append] at ho
    obtain ⟨A', c', rfl, _, _⟩ := own_slice ho
    exact h A' c' w' hb ho hg

set_option maxRecDepth 100000 in
set_option maxHeartbeats 8000000 in
theorem copied_t (B : Nat) (w : World) (d : Nat) (vs vp : Value) (S : List Sec) (P : List (Int × Sec)) (h : DiskAt B w d vs vp S P) (hS : S.length ≤ 100000) (hP : P.length ≤ 100000) :
    Calls Try.prog 30 #[.pointer (some ⟨d, 0, none⟩)] w fun e w' => ∃ g vs' vp', e = .returned (.pointer (some ⟨g, 0, none⟩)) ∧ w.heap.size ≤ g ∧ DiskAt w.heap.size w' g vs' vp' S P ∧ Ext NoS w w' := by
  obtain ⟨As, cs, rfl, _, _⟩ := own_slice h.safe
  obtain ⟨Ap, cp, rfl, _, _⟩ := own_slice h.pend
  have k0 := h.blk.cell 0
  have k1 := h.blk.cell 1
  simp at k0 k1
  have HD := hide h
  clear h
  have hs := fun (W : World) (hx : Ext NoS w W) (hn : S.flatMap sv ≠ []) => show ∃ b o, As = some ⟨b, o, none⟩ ∧ W.rangeAt b o (S.flatMap sv) by
    obtain ⟨b, o, h1, h2⟩ := own_src HD.out.safe hn
    exact ⟨b, o, h1, range_ext h2 hx (fun h => h)⟩
  have hp := fun (W : World) (hx : Ext NoS w W) (hn : P.flatMap wv ≠ []) => show ∃ b o, Ap = some ⟨b, o, none⟩ ∧ W.rangeAt b o (P.flatMap wv) by
    obtain ⟨b, o, h1, h2⟩ := own_src HD.out.pend hn
    exact ⟨b, o, h1, range_ext h2 hx (fun h => h)⟩
  have HS := hide hs
  have HP := hide hp
  have HSL := hide HD.out.safe.1
  have HPL := hide HD.out.pend.1
  clear hs hp
  go_enter Try.func30, Try.ntmps30
  go_upto_region 1 with fail
  have keepS : ∀ w', Ext NoS w w' → Ext NoS w w' ∧ w'.cell? ⟨d, 0, none⟩ = some (.slice As S.length cs) ∧ w'.cell? ⟨d, 1, none⟩ = some (.slice Ap P.length cp) := fun w' h => ⟨h, h.cell k0 (fun h => h), h.cell k1 (fun h => h)⟩
  go_region_held3 (fun w' => Ext NoS w w' ∧ w'.cell? ⟨d, 0, none⟩ = some (.slice As S.length cs) ∧ w'.cell? ⟨d, 1, none⟩ = some (.slice Ap P.length cp))
    (first | exact keepS _ (Ext.refl _ _).drew | exact keepS _ (by assumption) | exact keepS _ ((Ext.refl _ _).drew.alloc _) | exact keepS _ (((Ext.refl _ _).drew.alloc _).alloc _) | exact keepS _ (Ext.alloc (by assumption) _) | exact keepS _ (Ext.alloc (Ext.alloc (by assumption) _) _))
    (first
      | (refine step_append_new rfl _ _ 22 rfl 53 _ 32 32 Try.underlying22 infoSec rfl (by decide) _ rfl w.heap.size (by first | exact Blk.new' _ _ (by simp) | exact (Blk.new' _ _ (by simp)).alloc _ | exact HB3.out | (simpa using HB3.out) | (simpa using Blk.alloc HB3.out _)) (by first | exact Nat.le_refl _ | (simp; done) | (have := HX14.out.size; simp at this ⊢; omega)) As S.length cs (S.flatMap sv) rfl HSL.out (HS.out _ (‹Ext NoS w _ ∧ _›).1) (secs_one S) (by unfold maxLen; omega) (by omega) ?_; intro A8 c8 w8 hb3 ho8 hg8; have hx8 : Ext NoS w w8 := (‹Ext NoS w _ ∧ _›).1.grown hg8 (fun g hg => .inr (own_base (own_at_empty (size := 32) hb3 (by first | exact Nat.le_refl _ | (simp; done) | (have := HX14.out.size; simp at this ⊢; omega))) hg)); (try (have HB9 : Hid (Blk w8 _ 55 #[]) := hide (Blk.grown' (by first | exact Blk.new _ _ _ | exact (Blk.new _ _ _).alloc _) hg8 hb3 (by decide)))); (try (have HO14b := hide (own_grown' HO14.out hg8 hb3 (by decide)))); have HO8 := hide ho8; have HX8 := hide hx8; clear hb3 ho8 hg8)
      | (refine step_append_new rfl _ _ 23 rfl 55 _ 33 40 Try.underlying23 infoWr rfl (by decide) _ rfl w.heap.size (by first | exact Blk.new' _ _ (by simp) | exact (Blk.new' _ _ (by simp)).alloc _ | exact HB9.out | (simpa using HB9.out) | (simpa using Blk.alloc HB9.out _)) (by first | exact Nat.le_refl _ | (simp; done) | (have := HX8.out.size; simp at this ⊢; omega)) Ap P.length cp (P.flatMap wv) rfl HPL.out (HP.out _ (‹Ext NoS w _ ∧ _›).1) (writes_one P) (by unfold maxLen; omega) (by omega) ?_; intro A14 c14 w14 hb9 ho14 hg14; have hx14 : Ext NoS w w14 := (‹Ext NoS w _ ∧ _›).1.grown hg14 (fun g hg => .inr (own_base (own_at_empty (size := 33) hb9 (by first | exact Nat.le_refl _ | (simp; done) | (have := HX8.out.size; simp at this ⊢; omega))) hg)); (try (have HB3 : Hid (Blk w14 _ 53 #[]) := hide (Blk.grown' (by first | exact Blk.new _ _ _ | exact (Blk.new _ _ _).alloc _) hg14 hb9 (by decide)))); (first | (have HO8b := hide (own_grown' HO8.out hg14 hb9 (by decide))) | (have HO8b := hide (own_grown' (own_ext HO8.out ((Ext.refl NoS _).alloc (.cells #[] 55)) (fun _ _ h => h)) hg14 hb9 (by decide)))); have HO14 := hide ho14; have HX14 := hide hx14; clear hb9 ho14 hg14))
  all_goals
    go_wp2_with fail
    go_ret
    have h14 : Ext NoS w14 (w14.alloc (.cells #[.slice A8 S.length c8, .slice A14 P.length c14] 25)) := (Ext.refl _ _).alloc _
    exact ⟨w14.heap.size, .slice A8 S.length c8, .slice A14 P.length c14, rfl, HX14.out.size, ⟨Blk.new _ _ _, own_ext HO8b.out h14 (fun _ _ h => h), own_ext HO14.out h14 (fun _ _ h => h), HD.out.s32, HD.out.p32⟩, HX14.out.trans' h14⟩
end Go.Proofs.Ytmhhfhmpdpgmbaa
