/- Unpack. -/
import Derived.Test.YtmhhfhmpdpgmbaaPack
import Derived.Laws.BytesString
namespace Go.Proofs.Ytmhhfhmpdpgmbaa
open Go.RowKit

/-- The bytes of a text. -/
def txt (l : List UInt8) : ByteArray := ⟨l.toArray⟩
/-- What Unpack takes off, text for text. -/
def unpackGo : Nat → List UInt8 → List ByteArray → Option (List ByteArray)
  | _, [], out => some out
  | _, [_], _ => none
  | 0, _ :: _ :: _, _ => none
  | f + 1, a :: b :: r, out =>
    let n := a.toNat * 256 + b.toNat
    if 1000 < n ∨ r.length < n ∨ out.length = 100 then none else unpackGo f (r.drop n) (out ++ [txt (r.take n)])
def unpackB (l : List UInt8) : Option (List ByteArray) := if 4000 < l.length then none else unpackGo l.length l []
def UnpackPost (l : List UInt8) (w : World) (e : Ending) (w' : World) : Prop :=
  Ext NoS w w' ∧ match unpackB l with
    | none => e = .returned (.tuple #[.slice none 0 0, .int .i64 421])
    | some ts => ∃ v, e = .returned (.tuple #[v, .int .i64 0]) ∧ w'.ownsRow w.heap.size 9 1 v ts.length (ts.map Value.string)
theorem infoStr : (Try.prog.info? 9).map (fun i => (i.zero, i.size, i.bytes)) = some (some (.string ByteArray.empty), 1, 16) := by kernel_rfl
theorem unpack_step (a b : UInt8) (r : List UInt8) (f : Nat) (out : List ByteArray) : unpackGo (f + 1) (a :: b :: r) out =
    if 1000 < a.toNat * 256 + b.toNat ∨ r.length < a.toNat * 256 + b.toNat ∨ out.length = 100 then none else unpackGo f (r.drop (a.toNat * 256 + b.toNat)) (out ++ [txt (r.take (a.toNat * 256 + b.toNat))]) := by
  rw [unpackGo]
/-- A slice of bytes that goes on behind some of them. -/
theorem Bytes.from {K : Nat → Prop} {w : World} {b o c : Nat} {l : List UInt8} (n : Nat) (hn : n ≤ l.length) (hc : l.length ≤ c) (hK : K b) (h : w.rangeAt b o (l.map bv)) (A : Option Addr) (hA : n < c → A = some ⟨b, o + n, none⟩) :
    Bytes K w (.slice A (l.drop n).length (c - n)) (l.drop n) := by
  refine ⟨A, c - n, rfl, by rw [List.length_drop]; omega, fun hl => ⟨b, o + n, hA ?_, hK, ?_⟩⟩
  · have : 0 < (l.drop n).length := List.length_pos_iff.2 hl
    rw [List.length_drop] at this
    omega
  · have := range_drop h n
    rwa [← List.map_drop] at this

set_option maxRecDepth 100000 in
set_option maxHeartbeats 4000000 in
theorem unpack_t (K : Nat → Prop) (l : List UInt8) (v : Value) (w : World) (h : Bytes K w v l) : Calls Try.prog 23 #[v] w (UnpackPost l w) := by
  obtain ⟨A, c, rfl, hc, hr⟩ := h
  have HB : Hid (Bytes K w (.slice A l.length c) l) := hide ⟨A, c, rfl, hc, hr⟩
  clear hr
  go_enter Try.func23, Try.ntmps23
  by_cases h1 : 4000 < l.length
  · have he : unpackB l = none := by unfold unpackB; rw [if_pos h1]
    have HE := hide he
    clear he
    go_wp2
    go_ret2
    refine ⟨Ext.refl _ _, ?_⟩
    rw [HE.out]
    rfl
  have he : unpackB l = unpackGo l.length l [] := by unfold unpackB; rw [if_neg h1]
  have HL := hide he
  clear he
  go_wp2
  go_loopw [0, 4] (fun v0 v4 wr => ∃ (r : List UInt8) (out : List ByteArray) (f : Nat), r.length ≤ f ∧ f ≤ 4000 ∧ out.length ≤ 100 ∧ unpackB l = unpackGo f r out ∧ Bytes K w v0 r ∧ wr.ownsRow w.heap.size 9 1 v4 out.length (out.map Value.string) ∧ Ext NoS w wr)
    (fun v0 _ _ => (match v0 with | .slice _ n _ => n | _ => 0))
  case atStart => exact ⟨l, [], l.length, Nat.le_refl _, by omega, by decide, HL.out, HB.out, World.ownsRow_nil _ _ _ _, Ext.refl _ _⟩
  case round =>
    obtain ⟨r, out, f, hf, hf4, hol, hun, hb, ho, hE⟩ := hrel
    have HU := hide hun
    have HO := hide ho
    have HE := hide hE
    obtain ⟨A0, c0, rfl, hc0, hr0⟩ := hb
    obtain ⟨A4, c4, rfl, _, _⟩ := own_slice HO.out
    clear hun ho hE
    match r, hf, hc0, hr0, HU with
    | [], hf, hc0, hr0, HU =>
      have hn : unpackB l = some out := by rw [HU.out]; cases f <;> rfl
      have HN := hide hn
      clear hn
      simp only [List.length_nil]
      go_wp2
      go_ret2
      refine ⟨HE.out, ?_⟩
      rw [HN.out]
      exact ⟨_, rfl, HO.out⟩
    | [x], hf, hc0, hr0, HU =>
      have hn : unpackB l = none := by rw [HU.out]; cases f <;> rfl
      have HN := hide hn
      clear hn
      simp only [List.length_cons, List.length_nil]
      go_wp2
      go_ret2
      refine ⟨HE.out, ?_⟩
      rw [HN.out]
      rfl
    | a :: b :: r, hf, hc0, hr0, HU =>
      obtain ⟨g, o, rfl, hK, hrg⟩ := hr0 (by simp)
      have hrgw := hrg
      have hrg := range_ext hrg HE.out (fun h => h)
      obtain ⟨F, rfl⟩ : ∃ F, f = F + 1 := ⟨f - 1, by simp at hf; omega⟩
      obtain ⟨m, hm⟩ : ∃ m, m = (a :: b :: r).length := ⟨_, rfl⟩
      have hm2 : m = r.length + 2 := hm
      rw [← hm] at hc0 hf ⊢
      have hlt2 : 2 ≤ m := by omega
      have hmb : m ≤ 4000 := by omega
      have hmc : (2 : Int) ≤ (c0 : Int) := by omega
      have hnum := number_n g o c0 2 [a, b] wr rfl (by decide) (by
        have := range_take hrg 2
        simpa using this)
      have hbe : be [a, b] = a.toNat * 256 + b.toNat := by simp [be]
      rw [hbe] at hnum
      have ha := a.toNat_lt
      have hb := b.toNat_lt
      obtain ⟨n, hn⟩ : ∃ n, n = a.toNat * 256 + b.toNat := ⟨_, rfl⟩
      rw [← hn] at hnum
      have hnb : n < 65536 := by omega
      have hrr : wr.rangeAt g (o + 2) (r.map bv) := by
        have := range_drop hrg 2
        simpa using this
      have HNUM := hide hnum
      have HRR := hide hrr
      have HN := hide hn
      have HM := hide hm2
      clear hn hm hm2 hrg hbe hnum ha hb hrr hr0
      go_upto_region 8 with (go_at_call 37; refine HNUM.out.mono ?_; rintro e w' ⟨rfl, rfl⟩)
      go_cut [0] (fun v0 w' => wr = w' ∧ ∃ o', v0 = .slice (some ⟨g, o', none⟩) (m - 2) (c0 - 2) ∧ (2 < c0 → o' = o + 2))
      case first =>
        go_wp2
        all_goals
          go_meet
          first
            | exact ⟨rfl, _, rfl, fun _ => rfl⟩
            | exact ⟨rfl, o, by subst h; rfl, fun h => by omega⟩
            | (rename_i h; exact ⟨rfl, o, by subst h; rfl, fun h => by omega⟩)
      case rest =>
        obtain ⟨rfl, o', rfl, ho'⟩ := hcut
        obtain ⟨q, hq⟩ : ∃ q, q = m - 2 := ⟨_, rfl⟩
        obtain ⟨c2, hc2⟩ : ∃ c2, c2 = c0 - 2 := ⟨_, rfl⟩
        rw [← hq, ← hc2]
        have hqc : q ≤ c2 := by omega
        have hqr : r.length = q := by have := HM.out; omega
        have HQR := hide hqr
        have HO' := hide ho'
        have HC2 := hide hc2
        have HQ := hide hq
        clear hq hc2 hqr ho' hmc hlt2
        have hqb : q ≤ 4000 := by have := HQ.out; omega
        by_cases hbad : 1000 < n ∨ q < n ∨ out.length = 100
        · have hnone : unpackB l = none := by rw [HU.out, unpack_step, ← HN.out, HQR.out, if_pos hbad]
          have HX := hide hnone
          have hend : ∀ wf : World, Ext NoS w wf → UnpackPost l w (.returned (.tuple #[.slice none 0 0, .int .i64 421])) wf := fun wf h => by
            refine ⟨h, ?_⟩
            rw [HX.out]
          have HEND := hide hend
          clear hnone hend
          by_cases hb1 : 1000 < n
          · have hb2 : 1000 < (n : Int) := by omega
            clear hbad
            go_wp2
            all_goals
              go_ret2
              exact HEND.out _ HE.out
          by_cases hb3 : q < n
          · have hb2 : (n : Int) ≤ 1000 := by omega
            have hb4 : ¬ n ≤ q := by omega
            clear hbad
            go_wp2
            go_ret2
            exact HEND.out _ HE.out
          · have hb2 : (n : Int) ≤ 1000 := by omega
            have hb4 : n ≤ q := by omega
            have hb5 : out.length = 100 := by omega
            rw [hb5]
            clear hbad hb5
            go_wp2
            all_goals
              go_ret2
              exact HEND.out _ HE.out
        · have hno : unpackB l = unpackGo F (r.drop n) (out ++ [txt (r.take n)]) := by rw [HU.out, unpack_step, ← HN.out, HQR.out, if_neg hbad]
          have h1n : (n : Int) ≤ 1000 := by omega
          have h2n : n ≤ q := by omega
          have h4n : ¬ q < n := by omega
          have h5n : ¬ 1000 < (n : Int) := by omega
          have h3n : ((out.length : Int) == 100) = false := by simp; omega
          have hout : out.length < 100 := by omega
          have h6n : n ≤ c2 := by omega
          have HNO := hide hno
          clear hno hbad
          go_upto_region 11 with fail
          have hrn : wr.rangeAt g o' ((r.take n).map bv) := by
            intro j x hx
            have hj : j < (r.take n).length := by
              have := (List.getElem?_eq_some_iff.1 hx).1
              simpa using this
            rw [List.length_take, HQR.out] at hj
            have hc4 : 2 < c0 := by have := HC2.out; omega
            have := HRR.out j x (by rw [List.getElem?_map] at hx ⊢; rwa [List.getElem?_take_of_lt (by omega)] at hx)
            rwa [HO'.out hc4]
          have hln : (r.take n).length = n := by rw [List.length_take, HQR.out]; omega
          have hconv : (convert 46 9 (.slice (some ⟨g, o', none⟩) n c2)).run Try.prog wr.drew = .ok (.string (txt (r.take n))) wr.drew := by
            have := run_convert_bytes_back (P := Try.prog) wr.drew 46 9 5 ⟨g, o', none⟩ c2 (r.take n) Try.underlying46 Try.underlying5 Try.underlying9 (fun j hj => by
              rw [Addr.add_mid]
              exact hrn j _ (by rw [List.getElem?_map, List.getElem?_eq_getElem hj]; rfl))
            rw [hln] at this
            exact this
          obtain ⟨tx, htx⟩ : ∃ tx, tx = txt (r.take n) := ⟨_, rfl⟩
          rw [← htx] at hconv
          have HTX := hide htx
          have HRN := hide hrn
          clear htx hrn hln
          go_region_law (first
              | (refine step_append_any rfl _ _ 56 rfl w.heap.size 9 _ 1 16 Try.underlying56 infoStr rfl (by decide) _ out.length _ rfl (own_ext HO.out ((Ext.refl NoS wr).drew.alloc _) (fun _ _ h => h)) (some ⟨wr.heap.size, 0, none⟩) 1 1 [.string tx] rfl rfl (fun _ => ⟨_, _, rfl, (Blk.new wr.drew _ _).all⟩) (by simp [Value.oneCell']) (by unfold maxLen; omega) (by omega) (by have := HE.out.size; simp; omega) ?_; intro v' w6 ho6 hg6 hor6; have hg6' := same_own (own_ext HO.out ((Ext.refl NoS wr).drew.alloc (.cells #[.string tx] 9)) (fun _ _ h => h)) hg6; have HO6 := hide ho6; have HG6 := hide hg6'; clear ho6 hg6 hg6' hor6))
          have hE6 : Ext NoS w w6 := (HE.out.trans' ((Ext.refl NoS wr).drew.alloc (.cells #[.string tx] 9))).trans (Ext.of_grown HG6.out) (fun i hi e => by have := own_base HO.out e; omega)
          have hnew : Bytes K w (.slice (if c2 = n then some ⟨g, o', none⟩ else some ⟨g, o' + n, none⟩) (q - n) (c2 - n)) (r.drop n) := by
            refine ⟨_, _, by rw [List.length_drop, HQR.out], by rw [List.length_drop, HQR.out]; omega, fun hne => ?_⟩
            have hpos : 0 < (r.drop n).length := List.length_pos_iff.2 hne
            rw [List.length_drop, HQR.out] at hpos
            have hc4 : 2 < c0 := by have := HC2.out; omega
            refine ⟨g, o' + n, by rw [if_neg (by omega)], hK, ?_⟩
            have h1 := range_drop hrgw (2 + n)
            rw [HO'.out hc4]
            rw [← List.map_drop, show (2 + n) = n + 2 by omega, show (a :: b :: r).drop (n + 2) = r.drop n from rfl, show o + (n + 2) = o + 2 + n by omega] at h1
            exact h1
          have hlen6 : (out ++ [tx]).length = out.length + 1 := by simp
          have hmap6 : (out ++ [tx]).map Value.string = out.map Value.string ++ [.string tx] := by simp
          have hdl : (r.drop n).length = q - n := by rw [List.length_drop, HQR.out]
          rw [← HTX.out] at HNO
          have HE6 := hide hE6
          have HNEW := hide hnew
          have HL6 := hide hlen6
          have HM6 := hide hmap6
          have HDL := hide hdl
          clear hE6 hnew hlen6 hmap6 hdl hconv
          go_wp2_with fail
          all_goals
            go_roundw
            case rel => (repeat apply Exists.intro); exact ⟨⟨r.drop n, out ++ [tx], F, (by rw [HDL.out]; have := HQ.out; omega), (by omega), (by rw [HL6.out]; omega), HNO.out, (by first | exact HNEW.out | (have := HNEW.out; simpa [*] using this)), (by rw [HL6.out, HM6.out]; exact HO6.out), HE6.out⟩, rfl, rfl, rfl, rfl⟩
            case measure => first | (show q - n < m; have := HQ.out; omega) | (simp; have := HQ.out; omega)
end Go.Proofs.Ytmhhfhmpdpgmbaa
