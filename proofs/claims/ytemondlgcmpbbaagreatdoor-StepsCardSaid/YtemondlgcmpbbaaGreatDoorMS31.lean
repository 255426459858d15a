/- Cy Es: merged. -/
import Derived.Test.YtemondlgcmpbbaaGreatDoorMS30
import Derived.Test.YtemondlgcmpbbaaGreatDoorMS18
/- Walks: First, Last, Seek, Next, Prev. Printed by genCy.py. -/
namespace Go.Proofs.YtemondlgcmpbbaaGreatDoor
open Go.RowKit

set_option maxRecDepth 100000 in
set_option maxHeartbeats 1000000 in
theorem cfirst_any (c t x : Nat) (τ : TxS) (s : DbS) (key : Str) (on : Bool) (stamp : Int) (w : World) (hC : CurAt w c t key on stamp) (hT : TxAt w t τ) (hD : DbAt w x s) (hx : τ.db = x) (T : Tree) (ds : List Nat) (hk : τ.keys = T.keys) (hV : TreeV (fun z => z < w.heap.size) w T τ.root ds) (hR : TR T) (hp : T.pairs.length ≤ 150) :
    Calls Tryz.prog 43 #[.pointer (some ⟨c, 0, none⟩)] w (MvPost c t τ s ⟨#[102, 105, 114, 115, 116]⟩ false on stamp (afterV false ⟨#[]⟩ (fromK T ⟨#[]⟩)) w) := by
  obtain ⟨q, hq⟩ := hV.ptr
  obtain ⟨W0, hW0⟩ : ∃ W0, W0 = w.alloc (.cells #[.string ⟨#[]⟩, .string ⟨#[]⟩] 68) := ⟨_, rfl⟩
  have hb0 : Below w.heap.size w W0 := by rw [hW0]; exact (Below.refl _ _).alloc (Nat.le_refl _) _
  have hbx : Blk W0 w.heap.size 68 #[.string ⟨#[]⟩, .string ⟨#[]⟩] := by rw [hW0]; exact Blk.new _ _ _
  have hD0 : DbAt W0 x s := Blk.below hD hb0 (Blk.lt hD)
  have hT0 : TxAt W0 t τ := Blk.below hT hb0 (Blk.lt hT)
  have hC0 : CurAt W0 c t key on stamp := Blk.below hC hb0 (Blk.lt hC)
  have hxl : x < w.heap.size := Blk.lt hD
  have hcl : c < w.heap.size := Blk.lt hC
  have hcx : c ≠ x := Blk.ne_ hC hD (by decide)
  have HM := hide (move_any c t x τ s ⟨#[102, 105, 114, 115, 116]⟩ key false on stamp 68 #[] W0 hC0 hT0 hD0 hx (afterV false ⟨#[]⟩ (fromK T ⟨#[]⟩)) q hq (enters_of Tryz.func68 (by kernel_rfl) rfl) (fun W ho => by
    have hv : TreeV (fun z => z < W.heap.size) W T (.pointer q) ds := by
      have h1 := hV.below hb0 (fun _ h => h)
      rw [hq] at h1
      exact (h1.only ho fun z T' cs hz hb hi e => by subst e; exact Blk.ne_ hb hD0 (fun e => notImm (X := 91) (by decide) (by decide) (by decide) (e ▸ hi)) rfl).more fun z hz => Nat.lt_of_lt_of_le hz (Nat.le_trans hb0.size ho.size)
    have := first1_any T q ds W hv hR hp
    rw [hk]
    exact this))
  have HBX := hide hbx
  have HB0 := hide hb0
  have HCL := hide hcl
  obtain ⟨r, hr⟩ : ∃ r, r = afterV false ⟨#[]⟩ (fromK T ⟨#[]⟩) := ⟨_, rfl⟩
  rw [← hr] at HM ⊢
  clear hC hT hD hV hR hp hq hbx hb0 hD0 hT0 hC0 hr
  subst hW0
  go_enter Tryz.func43, Tryz.ntmps43
  go_wp2_with (go_at_call 67; go_loud (
     refine HM.out.mono ?_; rintro e w2 hm
     have hx2 : Blk w2 w.heap.size 68 #[.string ⟨#[]⟩, .string ⟨#[]⟩] := by
       rcases hm with ⟨_, mb, _⟩ | ⟨_, _, mb, _⟩ | ⟨_, _, _, _, mo⟩
       · exact HBX.out.below mb HBX.out.lt
       · exact HBX.out.below mb HBX.out.lt
       · exact HBX.out.only mo (by have := HCL.out; omega)
     have g0 := cellOf hx2 0 rfl
     have g1 := cellOf hx2 1 rfl
     have z0 : w2.frozen? ⟨w.heap.size, 0, none⟩ = false := hx2.frozen 0
     have z1 : w2.frozen? ⟨w.heap.size, 1, none⟩ = false := hx2.frozen 1
     have HX2 := hide hx2
     clear hx2
     rcases hm with ⟨m0, mb, f, rfl, mf, ml⟩ | ⟨m0, m1, mb, f, rfl, mf, ml⟩ | ⟨m0, m1, rfl, mc, mo⟩
     all_goals (have M0 := hide m0; clear m0)
     all_goals (try (have M1 := hide m1; clear m1))
     all_goals (try (have MB := hide mb; have MF := hide mf; have ML := hide ml; clear mb mf ml))
     all_goals (try (have MC := hide mc; have MO := hide mo; clear mc mo))
     all_goals (try unfold faultV)
     all_goals unfold pairV))
  · obtain ⟨WE, hWE⟩ : ∃ WE, WE = (w2.setCell ⟨w.heap.size, 0, none⟩ (.string (rK none))).setCell ⟨w.heap.size, 1, none⟩ (.string (rV none)) := ⟨_, rfl⟩
    rw [← hWE]
    have hxE : Blk WE w.heap.size 68 #[.string (rK none), .string (rV none)] := by rw [hWE]; exact (HX2.out.set_ 0 _).set_ 1 _
    have hoe : Only (fun y => y = w.heap.size) w2 WE := by rw [hWE]; exact (Only.set1 _ _ _ _).set2 _ _
    have hbw := HB0.out
    have hs2 := HX2.out.lt
    have hwe : Below w.heap.size w2 WE := hoe.to_below (by omega) (fun y e => by omega)
    have r0 := cellOf hxE 0 rfl
    have r1 := cellOf hxE 1 rfl
    refine bodyPost_ret (v := .tuple #[.agg #[.string (rK none), .string (rV none)], .bool false, faultV f]) (by simp [results, Tryz.results43, go_sem, r0, r1, faultV]) rfl ?_
    exact .inl ⟨M0.out, (hbw.trans (MB.out.mono hbw.size)).trans hwe, f, rfl, Blk.only MF.out hoe (by have := ML.out; have := HBX.out.lt; omega), Nat.le_trans hbw.size ML.out⟩
  · obtain ⟨WE, hWE⟩ : ∃ WE, WE = (w2.setCell ⟨w.heap.size, 0, none⟩ (.string (rK none))).setCell ⟨w.heap.size, 1, none⟩ (.string (rV none)) := ⟨_, rfl⟩
    rw [← hWE]
    have hxE : Blk WE w.heap.size 68 #[.string (rK none), .string (rV none)] := by rw [hWE]; exact (HX2.out.set_ 0 _).set_ 1 _
    have hoe : Only (fun y => y = w.heap.size) w2 WE := by rw [hWE]; exact (Only.set1 _ _ _ _).set2 _ _
    have hbw := HB0.out
    have hs2 := HX2.out.lt
    have hwe : Below w.heap.size w2 WE := hoe.to_below (by omega) (fun y e => by omega)
    have r0 := cellOf hxE 0 rfl
    have r1 := cellOf hxE 1 rfl
    refine bodyPost_ret (v := .tuple #[.agg #[.string (rK none), .string (rV none)], .bool false, faultV f]) (by simp [results, Tryz.results43, go_sem, r0, r1, faultV]) rfl ?_
    exact .inr (.inl ⟨M0.out, (by simpa using M1.out), (hbw.trans (MB.out.mono hbw.size)).trans hwe, f, rfl, Blk.only MF.out hoe (by have := ML.out; have := HBX.out.lt; omega), Nat.le_trans hbw.size ML.out⟩)
  · obtain ⟨WE, hWE⟩ : ∃ WE, WE = (w2.setCell ⟨w.heap.size, 0, none⟩ (.string (rK r))).setCell ⟨w.heap.size, 1, none⟩ (.string (rV r)) := ⟨_, rfl⟩
    rw [← hWE]
    have hxE : Blk WE w.heap.size 68 #[.string (rK r), .string (rV r)] := by rw [hWE]; exact (HX2.out.set_ 0 _).set_ 1 _
    have hoe : Only (fun y => y = w.heap.size) w2 WE := by rw [hWE]; exact (Only.set1 _ _ _ _).set2 _ _
    have hbw := HB0.out
    have hs2 := HX2.out.lt
    have hwe : Below w.heap.size w2 WE := hoe.to_below (by omega) (fun y e => by omega)
    have r0 := cellOf hxE 0 rfl
    have r1 := cellOf hxE 1 rfl
    refine bodyPost_ret (v := .tuple #[.agg #[.string (rK r), .string (rV r)], .bool r.isSome, .nilIface]) (by simp [results, Tryz.results43, go_sem, r0, r1]) rfl ?_
    exact .inr (.inr ⟨M0.out, (.inl rfl), rfl, Blk.only MC.out hoe (by have := HCL.out; omega), ((Only.of_below hbw).trans MO.out).trans' hoe (fun y hy e => by subst e; omega)⟩)
set_option maxRecDepth 100000 in
set_option maxHeartbeats 1000000 in
theorem clast_any (c t x : Nat) (τ : TxS) (s : DbS) (key : Str) (on : Bool) (stamp : Int) (w : World) (hC : CurAt w c t key on stamp) (hT : TxAt w t τ) (hD : DbAt w x s) (hx : τ.db = x) (T : Tree) (ds : List Nat) (hk : τ.keys = T.keys) (hV : TreeV (fun z => z < w.heap.size) w T τ.root ds) (hR : TR T) (hp : T.pairs.length ≤ 150) :
    Calls Tryz.prog 45 #[.pointer (some ⟨c, 0, none⟩)] w (MvPost c t τ s ⟨#[108, 97, 115, 116]⟩ false on stamp (befK T ⟨#[]⟩ true) w) := by
  obtain ⟨q, hq⟩ := hV.ptr
  obtain ⟨W0, hW0⟩ : ∃ W0, W0 = w.alloc (.cells #[.string ⟨#[]⟩, .string ⟨#[]⟩] 68) := ⟨_, rfl⟩
  have hb0 : Below w.heap.size w W0 := by rw [hW0]; exact (Below.refl _ _).alloc (Nat.le_refl _) _
  have hbx : Blk W0 w.heap.size 68 #[.string ⟨#[]⟩, .string ⟨#[]⟩] := by rw [hW0]; exact Blk.new _ _ _
  have hD0 : DbAt W0 x s := Blk.below hD hb0 (Blk.lt hD)
  have hT0 : TxAt W0 t τ := Blk.below hT hb0 (Blk.lt hT)
  have hC0 : CurAt W0 c t key on stamp := Blk.below hC hb0 (Blk.lt hC)
  have hxl : x < w.heap.size := Blk.lt hD
  have hcl : c < w.heap.size := Blk.lt hC
  have hcx : c ≠ x := Blk.ne_ hC hD (by decide)
  have HM := hide (move_any c t x τ s ⟨#[108, 97, 115, 116]⟩ key false on stamp 71 #[] W0 hC0 hT0 hD0 hx (befK T ⟨#[]⟩ true) q hq (enters_of Tryz.func71 (by kernel_rfl) rfl) (fun W ho => by
    have hv : TreeV (fun z => z < W.heap.size) W T (.pointer q) ds := by
      have h1 := hV.below hb0 (fun _ h => h)
      rw [hq] at h1
      exact (h1.only ho fun z T' cs hz hb hi e => by subst e; exact Blk.ne_ hb hD0 (fun e => notImm (X := 91) (by decide) (by decide) (by decide) (e ▸ hi)) rfl).more fun z hz => Nat.lt_of_lt_of_le hz (Nat.le_trans hb0.size ho.size)
    have := last1_any T q ds W hv hR hp
    rw [hk]
    exact this))
  have HBX := hide hbx
  have HB0 := hide hb0
  have HCL := hide hcl
  obtain ⟨r, hr⟩ : ∃ r, r = befK T ⟨#[]⟩ true := ⟨_, rfl⟩
  rw [← hr] at HM ⊢
  clear hC hT hD hV hR hp hq hbx hb0 hD0 hT0 hC0 hr
  subst hW0
  go_enter Tryz.func45, Tryz.ntmps45
  go_wp2_with (go_at_call 67; go_loud (
     refine HM.out.mono ?_; rintro e w2 hm
     have hx2 : Blk w2 w.heap.size 68 #[.string ⟨#[]⟩, .string ⟨#[]⟩] := by
       rcases hm with ⟨_, mb, _⟩ | ⟨_, _, mb, _⟩ | ⟨_, _, _, _, mo⟩
       · exact HBX.out.below mb HBX.out.lt
       · exact HBX.out.below mb HBX.out.lt
       · exact HBX.out.only mo (by have := HCL.out; omega)
     have g0 := cellOf hx2 0 rfl
     have g1 := cellOf hx2 1 rfl
     have z0 : w2.frozen? ⟨w.heap.size, 0, none⟩ = false := hx2.frozen 0
     have z1 : w2.frozen? ⟨w.heap.size, 1, none⟩ = false := hx2.frozen 1
     have HX2 := hide hx2
     clear hx2
     rcases hm with ⟨m0, mb, f, rfl, mf, ml⟩ | ⟨m0, m1, mb, f, rfl, mf, ml⟩ | ⟨m0, m1, rfl, mc, mo⟩
     all_goals (have M0 := hide m0; clear m0)
     all_goals (try (have M1 := hide m1; clear m1))
     all_goals (try (have MB := hide mb; have MF := hide mf; have ML := hide ml; clear mb mf ml))
     all_goals (try (have MC := hide mc; have MO := hide mo; clear mc mo))
     all_goals (try unfold faultV)
     all_goals unfold pairV))
  · obtain ⟨WE, hWE⟩ : ∃ WE, WE = (w2.setCell ⟨w.heap.size, 0, none⟩ (.string (rK none))).setCell ⟨w.heap.size, 1, none⟩ (.string (rV none)) := ⟨_, rfl⟩
    rw [← hWE]
    have hxE : Blk WE w.heap.size 68 #[.string (rK none), .string (rV none)] := by rw [hWE]; exact (HX2.out.set_ 0 _).set_ 1 _
    have hoe : Only (fun y => y = w.heap.size) w2 WE := by rw [hWE]; exact (Only.set1 _ _ _ _).set2 _ _
    have hbw := HB0.out
    have hs2 := HX2.out.lt
    have hwe : Below w.heap.size w2 WE := hoe.to_below (by omega) (fun y e => by omega)
    have r0 := cellOf hxE 0 rfl
    have r1 := cellOf hxE 1 rfl
    refine bodyPost_ret (v := .tuple #[.agg #[.string (rK none), .string (rV none)], .bool false, faultV f]) (by simp [results, Tryz.results45, go_sem, r0, r1, faultV]) rfl ?_
    exact .inl ⟨M0.out, (hbw.trans (MB.out.mono hbw.size)).trans hwe, f, rfl, Blk.only MF.out hoe (by have := ML.out; have := HBX.out.lt; omega), Nat.le_trans hbw.size ML.out⟩
  · obtain ⟨WE, hWE⟩ : ∃ WE, WE = (w2.setCell ⟨w.heap.size, 0, none⟩ (.string (rK none))).setCell ⟨w.heap.size, 1, none⟩ (.string (rV none)) := ⟨_, rfl⟩
    rw [← hWE]
    have hxE : Blk WE w.heap.size 68 #[.string (rK none), .string (rV none)] := by rw [hWE]; exact (HX2.out.set_ 0 _).set_ 1 _
    have hoe : Only (fun y => y = w.heap.size) w2 WE := by rw [hWE]; exact (Only.set1 _ _ _ _).set2 _ _
    have hbw := HB0.out
    have hs2 := HX2.out.lt
    have hwe : Below w.heap.size w2 WE := hoe.to_below (by omega) (fun y e => by omega)
    have r0 := cellOf hxE 0 rfl
    have r1 := cellOf hxE 1 rfl
    refine bodyPost_ret (v := .tuple #[.agg #[.string (rK none), .string (rV none)], .bool false, faultV f]) (by simp [results, Tryz.results45, go_sem, r0, r1, faultV]) rfl ?_
    exact .inr (.inl ⟨M0.out, (by simpa using M1.out), (hbw.trans (MB.out.mono hbw.size)).trans hwe, f, rfl, Blk.only MF.out hoe (by have := ML.out; have := HBX.out.lt; omega), Nat.le_trans hbw.size ML.out⟩)
  · obtain ⟨WE, hWE⟩ : ∃ WE, WE = (w2.setCell ⟨w.heap.size, 0, none⟩ (.string (rK r))).setCell ⟨w.heap.size, 1, none⟩ (.string (rV r)) := ⟨_, rfl⟩
    rw [← hWE]
    have hxE : Blk WE w.heap.size 68 #[.string (rK r), .string (rV r)] := by rw [hWE]; exact (HX2.out.set_ 0 _).set_ 1 _
    have hoe : Only (fun y => y = w.heap.size) w2 WE := by rw [hWE]; exact (Only.set1 _ _ _ _).set2 _ _
    have hbw := HB0.out
    have hs2 := HX2.out.lt
    have hwe : Below w.heap.size w2 WE := hoe.to_below (by omega) (fun y e => by omega)
    have r0 := cellOf hxE 0 rfl
    have r1 := cellOf hxE 1 rfl
    refine bodyPost_ret (v := .tuple #[.agg #[.string (rK r), .string (rV r)], .bool r.isSome, .nilIface]) (by simp [results, Tryz.results45, go_sem, r0, r1]) rfl ?_
    exact .inr (.inr ⟨M0.out, (.inl rfl), rfl, Blk.only MC.out hoe (by have := HCL.out; omega), ((Only.of_below hbw).trans MO.out).trans' hoe (fun y hy e => by subst e; omega)⟩)
set_option maxRecDepth 100000 in
set_option maxHeartbeats 1000000 in
theorem cseek_any (c t x : Nat) (τ : TxS) (s : DbS) (key : Str) (on : Bool) (stamp : Int) (k : Str) (w : World) (hC : CurAt w c t key on stamp) (hT : TxAt w t τ) (hD : DbAt w x s) (hx : τ.db = x) (T : Tree) (ds : List Nat) (hk : τ.keys = T.keys) (hV : TreeV (fun z => z < w.heap.size) w T τ.root ds) (hR : TR T) (hp : T.pairs.length ≤ 150) :
    Calls Tryz.prog 47 #[.pointer (some ⟨c, 0, none⟩), .string k] w (MvPost c t τ s ⟨#[115, 101, 101, 107]⟩ false on stamp (afterV false k (fromK T k)) w) := by
  obtain ⟨q, hq⟩ := hV.ptr
  obtain ⟨W0, hW0⟩ : ∃ W0, W0 = (w.alloc (.cells #[.string k] 9)).alloc (.cells #[.string ⟨#[]⟩, .string ⟨#[]⟩] 68) := ⟨_, rfl⟩
  have hb0 : Below w.heap.size w W0 := by rw [hW0]; exact ((Below.refl _ _).alloc (Nat.le_refl _) _).alloc (by simp) _
  have hbx : Blk W0 (w.heap.size + 1) 68 #[.string ⟨#[]⟩, .string ⟨#[]⟩] := by rw [hW0]; exact Blk.new2 _ _ _ _
  have hD0 : DbAt W0 x s := Blk.below hD hb0 (Blk.lt hD)
  have hT0 : TxAt W0 t τ := Blk.below hT hb0 (Blk.lt hT)
  have hC0 : CurAt W0 c t key on stamp := Blk.below hC hb0 (Blk.lt hC)
  have hxl : x < w.heap.size := Blk.lt hD
  have hcl : c < w.heap.size := Blk.lt hC
  have hcx : c ≠ x := Blk.ne_ hC hD (by decide)
  have hkb : Blk W0 w.heap.size 9 #[.string k] := by rw [hW0]; exact (Blk.new _ _ _).alloc _
  have HM := hide (move_any c t x τ s ⟨#[115, 101, 101, 107]⟩ key false on stamp 74 #[.pointer (some ⟨w.heap.size, 0, none⟩)] W0 hC0 hT0 hD0 hx (afterV false k (fromK T k)) q hq (enters_of Tryz.func74 (by kernel_rfl) rfl) (fun W ho => by
    have hv : TreeV (fun z => z < W.heap.size) W T (.pointer q) ds := by
      have h1 := hV.below hb0 (fun _ h => h)
      rw [hq] at h1
      exact (h1.only ho fun z T' cs hz hb hi e => by subst e; exact Blk.ne_ hb hD0 (fun e => notImm (X := 91) (by decide) (by decide) (by decide) (e ▸ hi)) rfl).more fun z hz => Nat.lt_of_lt_of_le hz (Nat.le_trans hb0.size ho.size)
    have := seek1_any T q ds W hv hR hp k w.heap.size (hkb.only ho (by omega))
    rw [hk]
    exact this))
  have HBX := hide hbx
  have HB0 := hide hb0
  have HCL := hide hcl
  obtain ⟨r, hr⟩ : ∃ r, r = afterV false k (fromK T k) := ⟨_, rfl⟩
  rw [← hr] at HM ⊢
  clear hC hT hD hV hR hp hq hbx hb0 hD0 hT0 hC0 hr hkb
  subst hW0
  go_enter Tryz.func47, Tryz.ntmps47
  go_wp2_with (go_at_call 67; go_loud (
     refine HM.out.mono ?_; rintro e w2 hm
     have hx2 : Blk w2 (w.heap.size + 1) 68 #[.string ⟨#[]⟩, .string ⟨#[]⟩] := by
       rcases hm with ⟨_, mb, _⟩ | ⟨_, _, mb, _⟩ | ⟨_, _, _, _, mo⟩
       · exact HBX.out.below mb HBX.out.lt
       · exact HBX.out.below mb HBX.out.lt
       · exact HBX.out.only mo (by have := HCL.out; omega)
     have g0 := cellOf hx2 0 rfl
     have g1 := cellOf hx2 1 rfl
     have z0 : w2.frozen? ⟨(w.heap.size + 1), 0, none⟩ = false := hx2.frozen 0
     have z1 : w2.frozen? ⟨(w.heap.size + 1), 1, none⟩ = false := hx2.frozen 1
     have HX2 := hide hx2
     clear hx2
     rcases hm with ⟨m0, mb, f, rfl, mf, ml⟩ | ⟨m0, m1, mb, f, rfl, mf, ml⟩ | ⟨m0, m1, rfl, mc, mo⟩
     all_goals (have M0 := hide m0; clear m0)
     all_goals (try (have M1 := hide m1; clear m1))
     all_goals (try (have MB := hide mb; have MF := hide mf; have ML := hide ml; clear mb mf ml))
     all_goals (try (have MC := hide mc; have MO := hide mo; clear mc mo))
     all_goals (try unfold faultV)
     all_goals unfold pairV))
  · obtain ⟨WE, hWE⟩ : ∃ WE, WE = (w2.setCell ⟨(w.heap.size + 1), 0, none⟩ (.string (rK none))).setCell ⟨(w.heap.size + 1), 1, none⟩ (.string (rV none)) := ⟨_, rfl⟩
    rw [← hWE]
    have hxE : Blk WE (w.heap.size + 1) 68 #[.string (rK none), .string (rV none)] := by rw [hWE]; exact (HX2.out.set_ 0 _).set_ 1 _
    have hoe : Only (fun y => y = (w.heap.size + 1)) w2 WE := by rw [hWE]; exact (Only.set1 _ _ _ _).set2 _ _
    have hbw := HB0.out
    have hs2 := HX2.out.lt
    have hwe : Below w.heap.size w2 WE := hoe.to_below (by omega) (fun y e => by omega)
    have r0 := cellOf hxE 0 rfl
    have r1 := cellOf hxE 1 rfl
    refine bodyPost_ret (v := .tuple #[.agg #[.string (rK none), .string (rV none)], .bool false, faultV f]) (by simp [results, Tryz.results47, go_sem, r0, r1, faultV]) rfl ?_
    exact .inl ⟨M0.out, (hbw.trans (MB.out.mono hbw.size)).trans hwe, f, rfl, Blk.only MF.out hoe (by have := ML.out; have := HBX.out.lt; omega), Nat.le_trans hbw.size ML.out⟩
  · obtain ⟨WE, hWE⟩ : ∃ WE, WE = (w2.setCell ⟨(w.heap.size + 1), 0, none⟩ (.string (rK none))).setCell ⟨(w.heap.size + 1), 1, none⟩ (.string (rV none)) := ⟨_, rfl⟩
    rw [← hWE]
    have hxE : Blk WE (w.heap.size + 1) 68 #[.string (rK none), .string (rV none)] := by rw [hWE]; exact (HX2.out.set_ 0 _).set_ 1 _
    have hoe : Only (fun y => y = (w.heap.size + 1)) w2 WE := by rw [hWE]; exact (Only.set1 _ _ _ _).set2 _ _
    have hbw := HB0.out
    have hs2 := HX2.out.lt
    have hwe : Below w.heap.size w2 WE := hoe.to_below (by omega) (fun y e => by omega)
    have r0 := cellOf hxE 0 rfl
    have r1 := cellOf hxE 1 rfl
    refine bodyPost_ret (v := .tuple #[.agg #[.string (rK none), .string (rV none)], .bool false, faultV f]) (by simp [results, Tryz.results47, go_sem, r0, r1, faultV]) rfl ?_
    exact .inr (.inl ⟨M0.out, (by simpa using M1.out), (hbw.trans (MB.out.mono hbw.size)).trans hwe, f, rfl, Blk.only MF.out hoe (by have := ML.out; have := HBX.out.lt; omega), Nat.le_trans hbw.size ML.out⟩)
  · obtain ⟨WE, hWE⟩ : ∃ WE, WE = (w2.setCell ⟨(w.heap.size + 1), 0, none⟩ (.string (rK r))).setCell ⟨(w.heap.size + 1), 1, none⟩ (.string (rV r)) := ⟨_, rfl⟩
    rw [← hWE]
    have hxE : Blk WE (w.heap.size + 1) 68 #[.string (rK r), .string (rV r)] := by rw [hWE]; exact (HX2.out.set_ 0 _).set_ 1 _
    have hoe : Only (fun y => y = (w.heap.size + 1)) w2 WE := by rw [hWE]; exact (Only.set1 _ _ _ _).set2 _ _
    have hbw := HB0.out
    have hs2 := HX2.out.lt
    have hwe : Below w.heap.size w2 WE := hoe.to_below (by omega) (fun y e => by omega)
    have r0 := cellOf hxE 0 rfl
    have r1 := cellOf hxE 1 rfl
    refine bodyPost_ret (v := .tuple #[.agg #[.string (rK r), .string (rV r)], .bool r.isSome, .nilIface]) (by simp [results, Tryz.results47, go_sem, r0, r1]) rfl ?_
    exact .inr (.inr ⟨M0.out, (.inl rfl), rfl, Blk.only MC.out hoe (by have := HCL.out; omega), ((Only.of_below hbw).trans MO.out).trans' hoe (fun y hy e => by subst e; omega)⟩)
set_option maxRecDepth 100000 in
set_option maxHeartbeats 1000000 in
theorem cnext_any (c t x : Nat) (τ : TxS) (s : DbS) (key : Str) (on : Bool) (stamp : Int) (w : World) (hC : CurAt w c t key on stamp) (hT : TxAt w t τ) (hD : DbAt w x s) (hx : τ.db = x) (T : Tree) (ds : List Nat) (hk : τ.keys = T.keys) (hV : TreeV (fun z => z < w.heap.size) w T τ.root ds) (hR : TR T) (hp : T.pairs.length ≤ 150) :
    Calls Tryz.prog 44 #[.pointer (some ⟨c, 0, none⟩)] w (MvPost c t τ s ⟨#[110, 101, 120, 116]⟩ true on stamp (afterV true key (fromK T key)) w) := by
  obtain ⟨q, hq⟩ := hV.ptr
  obtain ⟨W0, hW0⟩ : ∃ W0, W0 = (w.alloc (.cells #[.pointer (some ⟨c, 0, none⟩)] 64)).alloc (.cells #[.string ⟨#[]⟩, .string ⟨#[]⟩] 68) := ⟨_, rfl⟩
  have hb0 : Below w.heap.size w W0 := by rw [hW0]; exact ((Below.refl _ _).alloc (Nat.le_refl _) _).alloc (by simp) _
  have hbx : Blk W0 (w.heap.size + 1) 68 #[.string ⟨#[]⟩, .string ⟨#[]⟩] := by rw [hW0]; exact Blk.new2 _ _ _ _
  have hD0 : DbAt W0 x s := Blk.below hD hb0 (Blk.lt hD)
  have hT0 : TxAt W0 t τ := Blk.below hT hb0 (Blk.lt hT)
  have hC0 : CurAt W0 c t key on stamp := Blk.below hC hb0 (Blk.lt hC)
  have hxl : x < w.heap.size := Blk.lt hD
  have hcl : c < w.heap.size := Blk.lt hC
  have hcx : c ≠ x := Blk.ne_ hC hD (by decide)
  have hkb : Blk W0 w.heap.size 64 #[.pointer (some ⟨c, 0, none⟩)] := by rw [hW0]; exact (Blk.new _ _ _).alloc _
  have HM := hide (move_any c t x τ s ⟨#[110, 101, 120, 116]⟩ key true on stamp 70 #[.pointer (some ⟨w.heap.size, 0, none⟩)] W0 hC0 hT0 hD0 hx (afterV true key (fromK T key)) q hq (enters_of Tryz.func70 (by kernel_rfl) rfl) (fun W ho => by
    have hv : TreeV (fun z => z < W.heap.size) W T (.pointer q) ds := by
      have h1 := hV.below hb0 (fun _ h => h)
      rw [hq] at h1
      exact (h1.only ho fun z T' cs hz hb hi e => by subst e; exact Blk.ne_ hb hD0 (fun e => notImm (X := 91) (by decide) (by decide) (by decide) (e ▸ hi)) rfl).more fun z hz => Nat.lt_of_lt_of_le hz (Nat.le_trans hb0.size ho.size)
    have := next1_any T q ds W hv hR hp c w.heap.size t key on stamp (Blk.only hC0 ho hcx) (hkb.only ho (by omega))
    rw [hk]
    exact this))
  have HBX := hide hbx
  have HB0 := hide hb0
  have HCL := hide hcl
  obtain ⟨r, hr⟩ : ∃ r, r = afterV true key (fromK T key) := ⟨_, rfl⟩
  rw [← hr] at HM ⊢
  clear hC hT hD hV hR hp hq hbx hb0 hD0 hT0 hC0 hr hkb
  subst hW0
  go_enter Tryz.func44, Tryz.ntmps44
  go_wp2_with (go_at_call 67; go_loud (
     refine HM.out.mono ?_; rintro e w2 hm
     have hx2 : Blk w2 (w.heap.size + 1) 68 #[.string ⟨#[]⟩, .string ⟨#[]⟩] := by
       rcases hm with ⟨_, mb, _⟩ | ⟨_, _, mb, _⟩ | ⟨_, _, _, _, mo⟩
       · exact HBX.out.below mb HBX.out.lt
       · exact HBX.out.below mb HBX.out.lt
       · exact HBX.out.only mo (by have := HCL.out; omega)
     have g0 := cellOf hx2 0 rfl
     have g1 := cellOf hx2 1 rfl
     have z0 : w2.frozen? ⟨(w.heap.size + 1), 0, none⟩ = false := hx2.frozen 0
     have z1 : w2.frozen? ⟨(w.heap.size + 1), 1, none⟩ = false := hx2.frozen 1
     have HX2 := hide hx2
     clear hx2
     rcases hm with ⟨m0, mb, f, rfl, mf, ml⟩ | ⟨m0, m1, mb, f, rfl, mf, ml⟩ | ⟨m0, m1, rfl, mc, mo⟩
     all_goals (have M0 := hide m0; clear m0)
     all_goals (try (have M1 := hide m1; clear m1))
     all_goals (try (have MB := hide mb; have MF := hide mf; have ML := hide ml; clear mb mf ml))
     all_goals (try (have MC := hide mc; have MO := hide mo; clear mc mo))
     all_goals (try unfold faultV)
     all_goals unfold pairV))
  · obtain ⟨WE, hWE⟩ : ∃ WE, WE = (w2.setCell ⟨(w.heap.size + 1), 0, none⟩ (.string (rK none))).setCell ⟨(w.heap.size + 1), 1, none⟩ (.string (rV none)) := ⟨_, rfl⟩
    rw [← hWE]
    have hxE : Blk WE (w.heap.size + 1) 68 #[.string (rK none), .string (rV none)] := by rw [hWE]; exact (HX2.out.set_ 0 _).set_ 1 _
    have hoe : Only (fun y => y = (w.heap.size + 1)) w2 WE := by rw [hWE]; exact (Only.set1 _ _ _ _).set2 _ _
    have hbw := HB0.out
    have hs2 := HX2.out.lt
    have hwe : Below w.heap.size w2 WE := hoe.to_below (by omega) (fun y e => by omega)
    have r0 := cellOf hxE 0 rfl
    have r1 := cellOf hxE 1 rfl
    refine bodyPost_ret (v := .tuple #[.agg #[.string (rK none), .string (rV none)], .bool false, faultV f]) (by simp [results, Tryz.results44, go_sem, r0, r1, faultV]) rfl ?_
    exact .inl ⟨M0.out, (hbw.trans (MB.out.mono hbw.size)).trans hwe, f, rfl, Blk.only MF.out hoe (by have := ML.out; have := HBX.out.lt; omega), Nat.le_trans hbw.size ML.out⟩
  · obtain ⟨WE, hWE⟩ : ∃ WE, WE = (w2.setCell ⟨(w.heap.size + 1), 0, none⟩ (.string (rK none))).setCell ⟨(w.heap.size + 1), 1, none⟩ (.string (rV none)) := ⟨_, rfl⟩
    rw [← hWE]
    have hxE : Blk WE (w.heap.size + 1) 68 #[.string (rK none), .string (rV none)] := by rw [hWE]; exact (HX2.out.set_ 0 _).set_ 1 _
    have hoe : Only (fun y => y = (w.heap.size + 1)) w2 WE := by rw [hWE]; exact (Only.set1 _ _ _ _).set2 _ _
    have hbw := HB0.out
    have hs2 := HX2.out.lt
    have hwe : Below w.heap.size w2 WE := hoe.to_below (by omega) (fun y e => by omega)
    have r0 := cellOf hxE 0 rfl
    have r1 := cellOf hxE 1 rfl
    refine bodyPost_ret (v := .tuple #[.agg #[.string (rK none), .string (rV none)], .bool false, faultV f]) (by simp [results, Tryz.results44, go_sem, r0, r1, faultV]) rfl ?_
    exact .inr (.inl ⟨M0.out, (by simpa using M1.out), (hbw.trans (MB.out.mono hbw.size)).trans hwe, f, rfl, Blk.only MF.out hoe (by have := ML.out; have := HBX.out.lt; omega), Nat.le_trans hbw.size ML.out⟩)
  · obtain ⟨WE, hWE⟩ : ∃ WE, WE = (w2.setCell ⟨(w.heap.size + 1), 0, none⟩ (.string (rK r))).setCell ⟨(w.heap.size + 1), 1, none⟩ (.string (rV r)) := ⟨_, rfl⟩
    rw [← hWE]
    have hxE : Blk WE (w.heap.size + 1) 68 #[.string (rK r), .string (rV r)] := by rw [hWE]; exact (HX2.out.set_ 0 _).set_ 1 _
    have hoe : Only (fun y => y = (w.heap.size + 1)) w2 WE := by rw [hWE]; exact (Only.set1 _ _ _ _).set2 _ _
    have hbw := HB0.out
    have hs2 := HX2.out.lt
    have hwe : Below w.heap.size w2 WE := hoe.to_below (by omega) (fun y e => by omega)
    have r0 := cellOf hxE 0 rfl
    have r1 := cellOf hxE 1 rfl
    refine bodyPost_ret (v := .tuple #[.agg #[.string (rK r), .string (rV r)], .bool r.isSome, .nilIface]) (by simp [results, Tryz.results44, go_sem, r0, r1]) rfl ?_
    exact .inr (.inr ⟨M0.out, (by simpa using M1.out), rfl, Blk.only MC.out hoe (by have := HCL.out; omega), ((Only.of_below hbw).trans MO.out).trans' hoe (fun y hy e => by subst e; omega)⟩)
set_option maxRecDepth 100000 in
set_option maxHeartbeats 1000000 in
theorem cprev_any (c t x : Nat) (τ : TxS) (s : DbS) (key : Str) (on : Bool) (stamp : Int) (w : World) (hC : CurAt w c t key on stamp) (hT : TxAt w t τ) (hD : DbAt w x s) (hx : τ.db = x) (T : Tree) (ds : List Nat) (hk : τ.keys = T.keys) (hV : TreeV (fun z => z < w.heap.size) w T τ.root ds) (hR : TR T) (hp : T.pairs.length ≤ 150) :
    Calls Tryz.prog 46 #[.pointer (some ⟨c, 0, none⟩)] w (MvPost c t τ s ⟨#[112, 114, 101, 118]⟩ true on stamp (befK T key false) w) := by
  obtain ⟨q, hq⟩ := hV.ptr
  obtain ⟨W0, hW0⟩ : ∃ W0, W0 = (w.alloc (.cells #[.pointer (some ⟨c, 0, none⟩)] 64)).alloc (.cells #[.string ⟨#[]⟩, .string ⟨#[]⟩] 68) := ⟨_, rfl⟩
  have hb0 : Below w.heap.size w W0 := by rw [hW0]; exact ((Below.refl _ _).alloc (Nat.le_refl _) _).alloc (by simp) _
  have hbx : Blk W0 (w.heap.size + 1) 68 #[.string ⟨#[]⟩, .string ⟨#[]⟩] := by rw [hW0]; exact Blk.new2 _ _ _ _
  have hD0 : DbAt W0 x s := Blk.below hD hb0 (Blk.lt hD)
  have hT0 : TxAt W0 t τ := Blk.below hT hb0 (Blk.lt hT)
  have hC0 : CurAt W0 c t key on stamp := Blk.below hC hb0 (Blk.lt hC)
  have hxl : x < w.heap.size := Blk.lt hD
  have hcl : c < w.heap.size := Blk.lt hC
  have hcx : c ≠ x := Blk.ne_ hC hD (by decide)
  have hkb : Blk W0 w.heap.size 64 #[.pointer (some ⟨c, 0, none⟩)] := by rw [hW0]; exact (Blk.new _ _ _).alloc _
  have HM := hide (move_any c t x τ s ⟨#[112, 114, 101, 118]⟩ key true on stamp 73 #[.pointer (some ⟨w.heap.size, 0, none⟩)] W0 hC0 hT0 hD0 hx (befK T key false) q hq (enters_of Tryz.func73 (by kernel_rfl) rfl) (fun W ho => by
    have hv : TreeV (fun z => z < W.heap.size) W T (.pointer q) ds := by
      have h1 := hV.below hb0 (fun _ h => h)
      rw [hq] at h1
      exact (h1.only ho fun z T' cs hz hb hi e => by subst e; exact Blk.ne_ hb hD0 (fun e => notImm (X := 91) (by decide) (by decide) (by decide) (e ▸ hi)) rfl).more fun z hz => Nat.lt_of_lt_of_le hz (Nat.le_trans hb0.size ho.size)
    have := prev1_any T q ds W hv hR hp c w.heap.size t key on stamp (Blk.only hC0 ho hcx) (hkb.only ho (by omega))
    rw [hk]
    exact this))
  have HBX := hide hbx
  have HB0 := hide hb0
  have HCL := hide hcl
  obtain ⟨r, hr⟩ : ∃ r, r = befK T key false := ⟨_, rfl⟩
  rw [← hr] at HM ⊢
  clear hC hT hD hV hR hp hq hbx hb0 hD0 hT0 hC0 hr hkb
  subst hW0
  go_enter Tryz.func46, Tryz.ntmps46
  go_wp2_with (go_at_call 67; go_loud (
     refine HM.out.mono ?_; rintro e w2 hm
     have hx2 : Blk w2 (w.heap.size + 1) 68 #[.string ⟨#[]⟩, .string ⟨#[]⟩] := by
       rcases hm with ⟨_, mb, _⟩ | ⟨_, _, mb, _⟩ | ⟨_, _, _, _, mo⟩
       · exact HBX.out.below mb HBX.out.lt
       · exact HBX.out.below mb HBX.out.lt
       · exact HBX.out.only mo (by have := HCL.out; omega)
     have g0 := cellOf hx2 0 rfl
     have g1 := cellOf hx2 1 rfl
     have z0 : w2.frozen? ⟨(w.heap.size + 1), 0, none⟩ = false := hx2.frozen 0
     have z1 : w2.frozen? ⟨(w.heap.size + 1), 1, none⟩ = false := hx2.frozen 1
     have HX2 := hide hx2
     clear hx2
     rcases hm with ⟨m0, mb, f, rfl, mf, ml⟩ | ⟨m0, m1, mb, f, rfl, mf, ml⟩ | ⟨m0, m1, rfl, mc, mo⟩
     all_goals (have M0 := hide m0; clear m0)
     all_goals (try (have M1 := hide m1; clear m1))
     all_goals (try (have MB := hide mb; have MF := hide mf; have ML := hide ml; clear mb mf ml))
     all_goals (try (have MC := hide mc; have MO := hide mo; clear mc mo))
     all_goals (try unfold faultV)
     all_goals unfold pairV))
  · obtain ⟨WE, hWE⟩ : ∃ WE, WE = (w2.setCell ⟨(w.heap.size + 1), 0, none⟩ (.string (rK none))).setCell ⟨(w.heap.size + 1), 1, none⟩ (.string (rV none)) := ⟨_, rfl⟩
    rw [← hWE]
    have hxE : Blk WE (w.heap.size + 1) 68 #[.string (rK none), .string (rV none)] := by rw [hWE]; exact (HX2.out.set_ 0 _).set_ 1 _
    have hoe : Only (fun y => y = (w.heap.size + 1)) w2 WE := by rw [hWE]; exact (Only.set1 _ _ _ _).set2 _ _
    have hbw := HB0.out
    have hs2 := HX2.out.lt
    have hwe : Below w.heap.size w2 WE := hoe.to_below (by omega) (fun y e => by omega)
    have r0 := cellOf hxE 0 rfl
    have r1 := cellOf hxE 1 rfl
    refine bodyPost_ret (v := .tuple #[.agg #[.string (rK none), .string (rV none)], .bool false, faultV f]) (by simp [results, Tryz.results46, go_sem, r0, r1, faultV]) rfl ?_
    exact .inl ⟨M0.out, (hbw.trans (MB.out.mono hbw.size)).trans hwe, f, rfl, Blk.only MF.out hoe (by have := ML.out; have := HBX.out.lt; omega), Nat.le_trans hbw.size ML.out⟩
  · obtain ⟨WE, hWE⟩ : ∃ WE, WE = (w2.setCell ⟨(w.heap.size + 1), 0, none⟩ (.string (rK none))).setCell ⟨(w.heap.size + 1), 1, none⟩ (.string (rV none)) := ⟨_, rfl⟩
    rw [← hWE]
    have hxE : Blk WE (w.heap.size + 1) 68 #[.string (rK none), .string (rV none)] := by rw [hWE]; exact (HX2.out.set_ 0 _).set_ 1 _
    have hoe : Only (fun y => y = (w.heap.size + 1)) w2 WE := by rw [hWE]; exact (Only.set1 _ _ _ _).set2 _ _
    have hbw := HB0.out
    have hs2 := HX2.out.lt
    have hwe : Below w.heap.size w2 WE := hoe.to_below (by omega) (fun y e => by omega)
    have r0 := cellOf hxE 0 rfl
    have r1 := cellOf hxE 1 rfl
    refine bodyPost_ret (v := .tuple #[.agg #[.string (rK none), .string (rV none)], .bool false, faultV f]) (by simp [results, Tryz.results46, go_sem, r0, r1, faultV]) rfl ?_
    exact .inr (.inl ⟨M0.out, (by simpa using M1.out), (hbw.trans (MB.out.mono hbw.size)).trans hwe, f, rfl, Blk.only MF.out hoe (by have := ML.out; have := HBX.out.lt; omega), Nat.le_trans hbw.size ML.out⟩)
  · obtain ⟨WE, hWE⟩ : ∃ WE, WE = (w2.setCell ⟨(w.heap.size + 1), 0, none⟩ (.string (rK r))).setCell ⟨(w.heap.size + 1), 1, none⟩ (.string (rV r)) := ⟨_, rfl⟩
    rw [← hWE]
    have hxE : Blk WE (w.heap.size + 1) 68 #[.string (rK r), .string (rV r)] := by rw [hWE]; exact (HX2.out.set_ 0 _).set_ 1 _
    have hoe : Only (fun y => y = (w.heap.size + 1)) w2 WE := by rw [hWE]; exact (Only.set1 _ _ _ _).set2 _ _
    have hbw := HB0.out
    have hs2 := HX2.out.lt
    have hwe : Below w.heap.size w2 WE := hoe.to_below (by omega) (fun y e => by omega)
    have r0 := cellOf hxE 0 rfl
    have r1 := cellOf hxE 1 rfl
    refine bodyPost_ret (v := .tuple #[.agg #[.string (rK r), .string (rV r)], .bool r.isSome, .nilIface]) (by simp [results, Tryz.results46, go_sem, r0, r1]) rfl ?_
    exact .inr (.inr ⟨M0.out, (by simpa using M1.out), rfl, Blk.only MC.out hoe (by have := HCL.out; omega), ((Only.of_below hbw).trans MO.out).trans' hoe (fun y hy e => by subst e; omega)⟩)
end Go.Proofs.YtemondlgcmpbbaaGreatDoor

/- tree.each and Tree.Each, at Txn.All's function. -/
namespace Go.Proofs.YtemondlgcmpbbaaGreatDoor
open Go.RowKit

def YPostS (n₀ : Nat) (J Jx : List (Str × Str) → World → Prop) (pre : List (Str × Str)) (x : Str × Str) (W : World) : Ending → World → Prop := fun e W' =>
  (e = .returned (.bool true) ∧ J (pre ++ [x]) W' ∧ Below n₀ W W') ∨ (e = .returned (.bool false) ∧ Jx (pre ++ [x]) W')
def EPostS (n₀ : Nat) (J Jx : List (Str × Str) → World → Prop) (pre xs : List (Str × Str)) (W : World) : Ending → World → Prop := fun e W' =>
  (e = .returned (.bool true) ∧ J (pre ++ xs) W' ∧ Below n₀ W W') ∨ (e = .returned (.bool false) ∧ ∃ q, q <+: xs ∧ Jx (pre ++ q) W')
def LRelS (n₀ : Nat) (J : List (Str × Str) → World → Prop) (pre xs : List (Str × Str)) (W : World) (N : Nat) (s : Value) (wr : World) : Prop :=
  ∃ k : Nat, k ≤ N ∧ s = .int .i64 k ∧ J (pre ++ xs.take k) wr ∧ Below n₀ W wr

section
variable {n₀ : Nat} {L : List (Str × Str)} {J Jx : List (Str × Str) → World → Prop} {q1 q2 : Nat}

set_option maxRecDepth 100000 in
set_option maxHeartbeats 1600000 in
theorem each_leafS (hJ : ∀ pre W W', J pre W → Below W.heap.size W W' → J pre W') (hY : ∀ pre x W, J pre W → pre ++ [x] <+: L → n₀ ≤ W.heap.size → Calls Tryz.prog 141 #[.agg #[.string x.1, .string x.2], .pointer (some ⟨q1, 0, none⟩), .pointer (some ⟨q2, 0, none⟩)] W (YPostS n₀ J Jx pre x W))
    (n : Tr 0) (lo : Str) (b : Nat) (ds : List Nat) (pre : List (Str × Str)) (W : World) (hf : FRep (fun z => z < n₀) W 0 n b ds) (hr : Rise (Nd.es n)) (h1 : 1 ≤ (Nd.es n).length) (hn : (Nd.es n).length ≤ 400) (hL : pre ++ (Nd.es n).drop (place lo (Nd.es n)) <+: L) (h0 : J pre W) (hn0 : n₀ ≤ W.heap.size) :
    Calls Tryz.prog 145 #[P b, .string lo, .func (.func 141) #[] #[.pointer (some ⟨q1, 0, none⟩), .pointer (some ⟨q2, 0, none⟩)]] W (EPostS n₀ J Jx pre ((Nd.es n).drop (place lo (Nd.es n))) W) := by
  obtain ⟨A1, c1, A2, c2, hnd, hbn, hro, hds⟩ := hf
  have LEAF := hide (leaf_yes b (Nd.blk n) (Nd.gen n) c2 (Nd.dirty n) _ A2 W hnd.node)
  have PLACE := hide (place_any n lo b _ W (show Rep W 0 n b ds from ⟨_, _, hnd.node, hnd.ps, hnd.ks, hds⟩) hr (Nat.le_trans hn (by omega)))
  obtain ⟨es, hes⟩ : ∃ es, es = Nd.es n := ⟨_, rfl⟩
  rw [← hes] at hnd PLACE hr h1 hn hro hL ⊢
  have hat : ∀ wr, Below n₀ W wr → ∀ j (hj : j < es.length), ∃ g o, A1 = some ⟨g, o, none⟩ ∧ wr.cell? ⟨g, o + j * 2, none⟩ = some (.string es[j].1) ∧ wr.cell? ⟨g, o + j * 2 + 1, none⟩ = some (.string es[j].2) := by
    intro wr hb j hj
    obtain ⟨g, o, u1, u2, hA, hu1, hu2, hc1, hc2, hgl⟩ := hnd.ps.cells_at (Below.refl W.heap.size W) hj
    have hp := pcells_at es j hj
    have e1 := hu1.symm.trans hp.1
    have e2 := hu2.symm.trans hp.2
    injection e1 with e1
    injection e2 with e2
    subst e1; subst e2
    have hg0 : g < n₀ := hro (by omega) _ hA
    exact ⟨g, o, hA, (hb.cell (p := ⟨g, o + j * 2, none⟩) hg0).trans hc1, (hb.cell (p := ⟨g, o + j * 2 + 1, none⟩) hg0).trans hc2⟩
  obtain ⟨g, o, hA, _, _⟩ := hat W (Below.refl _ _) 0 (by omega)
  subst hA
  have hc3 : W.cell? ⟨b, 3, none⟩ = some (.slice (some ⟨g, o, none⟩) es.length c1) := by rw [Blk.cell hnd.node]; rfl
  have hcap : es.length ≤ c1 ∧ c1 ≤ maxLen := by
    obtain ⟨_, _, _, hv, e1, e2, _⟩ := hnd.ps
    injection hv with _ _ e3
    subst e3
    exact ⟨e1, e2⟩
  have hblt : b < W.heap.size := Blk.lt hnd.node
  have hpl := place_le lo es
  obtain ⟨i, hi⟩ : ∃ i, i = place lo es := ⟨_, rfl⟩
  obtain ⟨th, hth⟩ : ∃ th, th = there lo es := ⟨_, rfl⟩
  rw [← hi] at PLACE hpl hL ⊢
  rw [← hth] at PLACE
  obtain ⟨hcap1, hcap2⟩ := hcap
  have hml := hcap2
  unfold maxLen at hml
  have HAT := hide hat
  have HY := hide hY
  have HJ := hide hJ
  have H0 := hide h0
  have HLEN := hide (show es.length = i + (es.length - i) by omega)
  have HDL := hide (show (es.drop i).length = es.length - i by simp)
  have HL := hide hL
  clear hnd hro hds hat hY hJ h0 hi hth hr hes hL
  have k0 : (0 : Int) ≤ (i : Int) := by omega
  have k1 : (i : Int) ≤ (es.length : Int) := by omega
  have k2 : (es.length : Int) ≤ (c1 : Int) := by omega
  have k3 : (i : Int) ≤ (c1 : Int) := by omega
  unfold P
  go_enter Tryz.func145, Tryz.ntmps145
  go_upto_region 3 with (first
    | (go_at_call 81; go_loud (refine LEAF.out.mono ?_; rintro e w' ⟨rfl, rfl⟩))
    | (go_at_call 83; go_loud (
       refine PLACE.out.mono ?_; rintro e w2 ⟨rfl, hb2⟩
       have d3 : w2.cell? ⟨b, 3, none⟩ = some (.slice (some ⟨g, o, none⟩) es.length c1) := (hb2.cell hblt).trans hc3
       have HB2 := hide hb2)))
  go_cut [26, 27, 28] (fun s26 s27 s28 wx => ∃ O, (i < es.length → O = o + i * 2) ∧ s26 = .slice (some ⟨g, O, none⟩) (es.length - i) (c1 - i) ∧ s27 = .int .i64 ((es.length - i : Nat) : Int) ∧ s28 = .int .i64 0 ∧ wx = w2)
  case first =>
    go_wp2
    all_goals
      go_meet
      first
        | exact ⟨o + i * 2, fun _ => rfl, rfl, rfl, rfl, rfl⟩
        | (refine ⟨o, fun h => by omega, ?_, rfl, rfl, rfl⟩; simp; omega)
  case rest =>
  obtain ⟨O, hO, rfl, rfl, rfl, rfl⟩ := hcut
  obtain ⟨N, hN⟩ : ∃ N, N = es.length - i := ⟨_, rfl⟩
  rw [← hN]
  obtain ⟨C, hC⟩ : ∃ C, C = c1 - i := ⟨_, rfl⟩
  rw [← hC]
  have HO := hide hO
  have HN := hide hN
  have HC := hide hC
  have hNC : N ≤ C := by omega
  have hN4 : N ≤ 400 := by omega
  clear hO hN hC
  go_wp2
  go_loopw [28] (fun s wr => LRelS n₀ J pre (es.drop i) W N s wr) (fun s _ => N - (intOf s).toNat)
  case atStart => exact ⟨0, Nat.zero_le _, rfl, by simpa using HJ.out pre _ _ H0.out HB2.out, HB2.out.mono hn0⟩
  case round =>
    obtain ⟨k, hk, rfl, hj, hb⟩ := hrel
    by_cases hlt : k < N
    · have hik : i + k < es.length := by have := HN.out; omega
      obtain ⟨g', o', e1, e2, e3⟩ := HAT.out wr hb (i + k) (by have := HN.out; omega)
      injection e1 with e1
      injection e1 with e1 e4
      subst e1; subst e4
      have hOk := HO.out (by have := HN.out; omega)
      have r1 : wr.cell? ⟨g, O + k * 2, none⟩ = some (.string es[i + k].1) := by rw [hOk, Nat.add_assoc, ← Nat.add_mul]; exact e2
      have r2 : wr.cell? ⟨g, O + k * 2 + 1, none⟩ = some (.string es[i + k].2) := by rw [hOk, Nat.add_assoc o, ← Nat.add_mul]; exact e3
      obtain ⟨x, hx⟩ : ∃ x, x = es[i + k] := ⟨_, rfl⟩
      rw [← hx] at r1 r2
      have hal : Below wr.heap.size wr (wr.alloc (.cells #[.string x.1, .string x.2] 68)) := (Below.refl _ _).alloc (Nat.le_refl _) _
      have m0 : (0 : Int) ≤ (k : Int) := by omega
      have m1 : (k : Int) < (N : Int) := by omega
      have hsn : (es.drop i).take (k + 1) = (es.drop i).take k ++ [x] := by
        rw [take_snoc (by rw [List.length_drop]; have := HN.out; omega), hx]
        simp
      have hpx : (pre ++ (es.drop i).take k) ++ [x] <+: L := by
        rw [List.append_assoc, ← hsn]
        exact ((List.prefix_append_right_inj _).2 (List.take_prefix _ _)).trans HL.out
      have YC := hide (HY.out _ x _ (HJ.out _ _ _ hj hal) hpx (Nat.le_trans hn0 (Nat.le_trans hb.size hal.size)))
      have HSN := hide hsn
      have HX := hide hx
      have HBR := hide hb
      clear hj hb e2 e3 hx hOk hsn hpx
      go_wp2_with (first
        | (go_at_call 141; go_loud (refine YC.out.mono ?_; rintro e w3 (⟨rfl, hj3, hb3⟩ | ⟨rfl, hx3⟩))))
      · go_roundw
        case rel =>
          refine ⟨k + 1, by omega, by go_num, ?_, HBR.out.trans (Below.from_alloc hb3 HBR.out (Nat.le_trans hn0 HBR.out.size))⟩
          rw [HSN.out, ← List.append_assoc]
          exact hj3
        case measure => simp [intOf]; omega
      · go_ret
        right
        refine ⟨rfl, (es.drop i).take k ++ [x], ?_, by rw [← List.append_assoc]; exact hx3⟩
        rw [← HSN.out]
        exact List.take_prefix _ _
    · have m1 : ¬ (k : Int) < (N : Int) := by omega
      have hkN : k = N := by omega
      have HBR := hide hb
      have HJR := hide hj
      clear hb hj
      go_wp2
      go_ret
      left
      refine ⟨rfl, ?_, HBR.out⟩
      have e : (es.drop i).take k = es.drop i := by rw [List.take_of_length_le]; rw [HDL.out, hkN, HN.out]; omega
      have := HJR.out
      rw [e] at this
      exact this

def BRelS (n₀ : Nat) (J : List (Str × Str) → World → Prop) (pre : List (Str × Str)) {h : Nat} (es : List (Str × Tr h)) (lo : Str) (W : World) (N : Nat) (s : Value) (wr : World) : Prop :=
  ∃ k : Nat, k ≤ N ∧ s = .int .i64 k ∧ J (pre ++ (es.take k).flatMap fun e => Tr.from h e.2 lo) wr ∧ Below n₀ W wr

set_option maxRecDepth 100000 in
set_option maxHeartbeats 1600000 in
theorem each_branchS (hJ : ∀ pre W W', J pre W → Below W.heap.size W W' → J pre W') {h : Nat} (n : Tr (h + 1)) (lo : Str) (b : Nat) (ds : List Nat) (pre : List (Str × Str)) (W : World) (hf : FRep (fun z => z < n₀) W (h + 1) n b ds) (h1 : 1 ≤ (Nd.es n).length) (hn : (Nd.es n).length ≤ 400) (hL : pre ++ Tr.from (h + 1) n lo <+: L) (h0 : J pre W) (hn0 : n₀ ≤ W.heap.size)
    (IH : ∀ e ∈ Nd.es n, ∀ (bc : Nat) (dc : List Nat) (pre' : List (Str × Str)) (W' : World), FRep (fun z => z < n₀) W' h e.2 bc dc → pre' ++ Tr.from h e.2 lo <+: L → J pre' W' → n₀ ≤ W'.heap.size → Calls Tryz.prog 145 #[P bc, .string lo, .func (.func 141) #[] #[.pointer (some ⟨q1, 0, none⟩), .pointer (some ⟨q2, 0, none⟩)]] W' (EPostS n₀ J Jx pre' (Tr.from h e.2 lo) W')) :
    Calls Tryz.prog 145 #[P b, .string lo, .func (.func 141) #[] #[.pointer (some ⟨q1, 0, none⟩), .pointer (some ⟨q2, 0, none⟩)]] W (EPostS n₀ J Jx pre (Tr.from (h + 1) n lo) W) := by
  obtain ⟨A1, c1, A2, c2, bs, dss, hnd, hbn, hro, hkk, hds⟩ := hf
  have hfr : Tr.from (h + 1) n lo = ((Nd.es n).drop (below lo (Nd.es n))).flatMap fun e => Tr.from h e.2 lo := rfl
  rw [hfr] at hL ⊢
  have hbb := below_bounds lo (Nd.es n) h1
  have hbsl := hkk.len.1
  have hdsl := hkk.len.2
  have LEAF := hide (leaf_no b (Nd.blk n) (Nd.gen n) (Nd.es n).length c2 (Nd.dirty n) _ A2 W hnd.node h1 (by omega))
  have BELOW := hide (fun q => below_any (Nd.es n) bs lo b (Nd.blk n) (Nd.gen n) c2 (Nd.dirty n) _ A2 (W.drewN q)
    (hnd.move (Agree.of_below (below_drewN (Below.refl W.heap.size W) q) (fun _ hx => hx)) (Blk.lt hnd.node) (rowOk.zero _ _) hnd.ks.row_lt).node
    (hnd.move (Agree.of_below (below_drewN (Below.refl W.heap.size W) q) (fun _ hx => hx)) (Blk.lt hnd.node) (rowOk.zero _ _) hnd.ks.row_lt).ks hbsl h1 (by omega))
  obtain ⟨es, hes⟩ : ∃ es, es = Nd.es n := ⟨_, rfl⟩
  rw [← hes] at hnd hkk BELOW h1 hn hro hbb hbsl hdsl IH hL ⊢
  have hat : ∀ wr, Below n₀ W wr → ∀ j (hj : j < es.length), ∃ g o, A2 = some ⟨g, o, none⟩ ∧ wr.cell? ⟨g, o + j * 2, none⟩ = some (.string es[j].1) ∧ wr.cell? ⟨g, o + j * 2 + 1, none⟩ = some (P (bs[j]'(by omega))) ∧ FRep (fun z => z < n₀) wr h es[j].2 (bs[j]'(by omega)) (dss[j]'(by omega)) := by
    intro wr hb j hj
    obtain ⟨g, o, u1, u2, hA, hu1, hu2, hc1, hc2, hgl⟩ := hnd.ks.cells_at (Below.refl W.heap.size W) hj
    have hp := kcells_at es bs j hj (by omega)
    have e1 := hu1.symm.trans hp.1
    have e2 := hu2.symm.trans hp.2
    injection e1 with e1
    injection e2 with e2
    subst e1; subst e2
    have hg0 : g < n₀ := hro (by omega) _ hA
    exact ⟨g, o, hA, (hb.cell (p := ⟨g, o + j * 2, none⟩) hg0).trans hc1, (hb.cell (p := ⟨g, o + j * 2 + 1, none⟩) hg0).trans hc2, (hkk.at_ j hj (by omega) (by omega)).move (Agree.of_below hb (fun _ hx => hx)) (fun _ hx => hx)⟩
  obtain ⟨g, o, hA, -, -, -⟩ := hat W (Below.refl _ _) 0 (by omega)
  subst hA
  have hc4 : W.cell? ⟨b, 4, none⟩ = some (.slice (some ⟨g, o, none⟩) es.length c2) := by rw [Blk.cell hnd.node]; rfl
  have hcap : es.length ≤ c2 ∧ c2 ≤ maxLen := by
    obtain ⟨_, _, _, hv, e1, e2, _⟩ := hnd.ks
    injection hv with _ _ e3
    subst e3
    exact ⟨e1, e2⟩
  obtain ⟨i, hi⟩ : ∃ i, i = below lo es := ⟨_, rfl⟩
  rw [← hi] at BELOW hbb hL ⊢
  obtain ⟨hcap1, hcap2⟩ := hcap
  have hml := hcap2
  unfold maxLen at hml
  have HAT := hide hat
  have HIH := hide IH
  have HJ := hide hJ
  have H0 := hide h0
  have HDL := hide (show (es.drop i).length = es.length - i by simp)
  have HL := hide hL
  clear hnd hkk hro hds hat IH hJ h0 hi hes hfr hL
  have k0 : (0 : Int) ≤ (i : Int) := by omega
  have k1 : (i : Int) ≤ (es.length : Int) := by omega
  have k2 : (es.length : Int) ≤ (c2 : Int) := by omega
  have k3 : (i : Int) < (c2 : Int) := by omega
  have k4 : ¬ i = c2 := by omega
  unfold P
  unfold P at LEAF BELOW
  go_enter Tryz.func145, Tryz.ntmps145
  go_upto_region 10 with (first
    | (go_at_call 81; go_loud (refine LEAF.out.mono ?_; rintro e w' ⟨rfl, rfl⟩)))
  go_quiet (first | (go_at_call 82; exact quiet_same (BELOW.out _)))
  obtain ⟨Wq, hWq⟩ : ∃ Wq, Wq = W.drewN nq := ⟨_, rfl⟩
  rw [← hWq]
  have hbq : Below W.heap.size W Wq := by rw [hWq]; exact below_drewN (Below.refl _ _) nq
  have HBQ := hide hbq
  clear hbq hWq
  obtain ⟨N, hN⟩ : ∃ N, N = es.length - i := ⟨_, rfl⟩
  rw [← hN]
  obtain ⟨C, hC⟩ : ∃ C, C = c2 - i := ⟨_, rfl⟩
  rw [← hC]
  have HN := hide hN
  have HC := hide hC
  have hNC : N ≤ C := by omega
  have hN4 : N ≤ 400 := by omega
  clear hN hC
  go_wp2
  go_loopw [46] (fun s wr => BRelS n₀ J pre (es.drop i) lo W N s wr) (fun s _ => N - (intOf s).toNat)
  case atStart => exact ⟨0, Nat.zero_le _, rfl, by simpa using HJ.out pre _ _ H0.out HBQ.out, HBQ.out.mono hn0⟩
  case round =>
    obtain ⟨k, hk, rfl, hj, hb⟩ := hrel
    by_cases hlt : k < N
    · have hik : i + k < es.length := by have := HN.out; omega
      obtain ⟨g', o', e1, e2, e3, hfk⟩ := HAT.out wr hb (i + k) hik
      injection e1 with e1
      injection e1 with e1 e4
      subst e1; subst e4
      have r1 : wr.cell? ⟨g, o + i * 2 + k * 2, none⟩ = some (.string es[i + k].1) := by rw [Nat.add_assoc, ← Nat.add_mul]; exact e2
      have r2 : wr.cell? ⟨g, o + i * 2 + k * 2 + 1, none⟩ = some (P (bs[i + k]'(by omega))) := by rw [Nat.add_assoc o, ← Nat.add_mul]; exact e3
      obtain ⟨x, hx⟩ : ∃ x, x = es[i + k] := ⟨_, rfl⟩
      obtain ⟨bc, hbc⟩ : ∃ bc, bc = bs[i + k]'(by omega) := ⟨_, rfl⟩
      rw [← hx] at r1 hfk
      rw [← hbc] at r2 hfk
      have hal : Below wr.heap.size wr (wr.alloc (.cells #[.string x.1, P bc] 139)) := (Below.refl _ _).alloc (Nat.le_refl _) _
      have hzn : n₀ ≤ wr.heap.size := Nat.le_trans hn0 hb.size
      have m0 : (0 : Int) ≤ (k : Int) := by omega
      have m1 : (k : Int) < (N : Int) := by omega
      have hsn : (es.drop i).take (k + 1) = (es.drop i).take k ++ [x] := by
        rw [take_snoc (by rw [List.length_drop]; have := HN.out; omega), hx]
        simp
      have hsp : ((es.drop i).take (k + 1)).flatMap (fun e => Tr.from h e.2 lo) = ((es.drop i).take k).flatMap (fun e => Tr.from h e.2 lo) ++ Tr.from h x.2 lo := by rw [hsn]; simp
      have hpf : ((es.drop i).take (k + 1)).flatMap (fun e => Tr.from h e.2 lo) <+: (es.drop i).flatMap (fun e => Tr.from h e.2 lo) := by
        conv => rhs; rw [← List.take_append_drop (k + 1) (es.drop i)]
        rw [List.flatMap_append]
        exact List.prefix_append _ _
      have hpx : (pre ++ ((es.drop i).take k).flatMap fun e => Tr.from h e.2 lo) ++ Tr.from h x.2 lo <+: L := by
        rw [List.append_assoc, ← hsp]
        exact ((List.prefix_append_right_inj _).2 hpf).trans HL.out
      have YC := hide (HIH.out x (by rw [hx]; exact List.getElem_mem _) bc _ _ _ (hfk.below hal (fun _ h => h)) hpx (HJ.out _ _ _ hj hal) (Nat.le_trans hzn hal.size))
      have HSP := hide hsp
      have HPF := hide hpf
      have HX := hide hx
      have HBC := hide hbc
      have HBR := hide hb
      clear hj hb e2 e3 hx hbc hsn hsp hpf hfk hpx
      unfold P at r2 YC
      go_wp2_with (first
        | (go_at_call 145; go_loud (refine YC.out.mono ?_; rintro e w3 (⟨rfl, hj3, hb3⟩ | ⟨rfl, q, hq, hx3⟩))))
      · go_roundw
        case rel =>
          refine ⟨k + 1, by omega, by go_num, ?_, HBR.out.trans (Below.from_alloc hb3 HBR.out hzn)⟩
          rw [HSP.out, ← List.append_assoc]
          exact hj3
        case measure => simp [intOf]; omega
      · go_ret
        right
        refine ⟨rfl, ((es.drop i).take k).flatMap (fun e => Tr.from h e.2 lo) ++ q, ?_, by rw [← List.append_assoc]; exact hx3⟩
        refine List.IsPrefix.trans ?_ HPF.out
        rw [HSP.out]
        exact (List.prefix_append_right_inj _).2 hq
    · have m1 : ¬ (k : Int) < (N : Int) := by omega
      have hkN : k = N := by omega
      have HBR := hide hb
      have HJR := hide hj
      clear hb hj
      go_wp2
      go_ret
      left
      refine ⟨rfl, ?_, HBR.out⟩
      have e : (es.drop i).take k = es.drop i := by rw [List.take_of_length_le]; rw [HDL.out, hkN, HN.out]; omega
      have := HJR.out
      rw [e] at this
      exact this

theorem each_anyS (hJ : ∀ pre W W', J pre W → Below W.heap.size W W' → J pre W') (hY : ∀ pre x W, J pre W → pre ++ [x] <+: L → n₀ ≤ W.heap.size → Calls Tryz.prog 141 #[.agg #[.string x.1, .string x.2], .pointer (some ⟨q1, 0, none⟩), .pointer (some ⟨q2, 0, none⟩)] W (YPostS n₀ J Jx pre x W)) (lo : Str) :
    ∀ (h : Nat) (lo0 : Str) (hi0 : Option Str) (n : Tr h) (b : Nat) (ds : List Nat) (pre : List (Str × Str)) (W : World), WF h lo0 hi0 n → Top h n → (Tr.pairs h n).length ≤ 150 → FRep (fun z => z < n₀) W h n b ds → pre ++ Tr.from h n lo <+: L → J pre W → n₀ ≤ W.heap.size →
    Calls Tryz.prog 145 #[P b, .string lo, .func (.func 141) #[] #[.pointer (some ⟨q1, 0, none⟩), .pointer (some ⟨q2, 0, none⟩)]] W (EPostS n₀ J Jx pre (Tr.from h n lo) W)
  | 0, lo0, hi0, n, b, ds, pre, W, hw, ht, hp, hf, hL, h0, hn0 => each_leafS hJ hY n lo b ds pre W hf hw.1 ht (Nat.le_trans hp (by omega)) hL h0 hn0
  | h + 1, lo0, hi0, n, b, ds, pre, W, hw, ht, hp, hf, hL, h0, hn0 => by
    obtain ⟨f1, f2, _⟩ := few_els (h + 1) lo0 hi0 n hw ht
    refine each_branchS hJ n lo b ds pre W hf f1 (Nat.le_trans f2 (by omega)) hL h0 hn0 ?_
    intro e he bc dc pre' W' hf' hL' hj' hn'
    obtain ⟨⟨hi', w1⟩, _⟩ := chain_mem (show Chain (WF h) lo0 hi0 (Nd.es n) from hw) e he
    exact each_anyS hJ hY lo h e.1 hi' e.2 bc dc pre' W' w1 (top_kid ht e he) (Nat.le_trans (kid_pairs (es := Nd.es n) e he) hp) hf' hL' hj' hn'

theorem tEachS (hJ : ∀ pre W W', J pre W → Below W.heap.size W W' → J pre W') (hY : ∀ pre x W, J pre W → pre ++ [x] <+: L → n₀ ≤ W.heap.size → Calls Tryz.prog 141 #[.agg #[.string x.1, .string x.2], .pointer (some ⟨q1, 0, none⟩), .pointer (some ⟨q2, 0, none⟩)] W (YPostS n₀ J Jx pre x W))
    (t : Tree) (rp : Value) (ds : List Nat) (lo : Str) (W : World) (hv : TreeV (fun z => z < n₀) W t rp ds) (ht : TR t) (hp : t.pairs.length ≤ 150) (hL : fromK t lo <+: L) (h0 : J [] W) (hn0 : n₀ ≤ W.heap.size) :
    Calls Tryz.prog 105 #[treeV rp t.keys, .string lo, .func (.func 141) #[] #[.pointer (some ⟨q1, 0, none⟩), .pointer (some ⟨q2, 0, none⟩)]] W fun e W' => e = .returned (.tuple #[]) ∧ ((J (fromK t lo) W' ∧ Below n₀ W W') ∨ ∃ q, q <+: fromK t lo ∧ Jx q W') := by
  have hb0 : Below W.heap.size W (W.alloc (.cells #[rp, .int .i64 t.keys] 88)) := (Below.refl _ _).alloc (Nat.le_refl _) _
  rcases hv with ⟨hr, rfl, rfl⟩ | ⟨h, n, b, hr, rfl, hf⟩
  · have hfk : fromK t lo = [] := by unfold fromK Tree.pairs; rw [hr]; simp
    rw [hfk]
    have HJ := hide (hJ [] _ _ h0 hb0)
    have HB := hide hb0
    clear hJ hY h0 hb0
    unfold treeV
    go_enter Tryz.func105, Tryz.ntmps105
    go_wp2
    go_end0
    exact ⟨rfl, .inl ⟨HJ.out, HB.out.mono hn0⟩⟩
  · have hfk : fromK t lo = Tr.from h n lo := by
      have hpp : t.pairs = Tr.pairs h n := by unfold Tree.pairs; rw [hr]
      unfold fromK
      rw [hpp, from_pairs h noKey none n lo (ht.tw.some_ h n hr) (slt_empty lo)]
    rw [hfk] at hL ⊢
    have hpp : t.pairs = Tr.pairs h n := by unfold Tree.pairs; rw [hr]
    have HE := hide (each_anyS hJ hY lo h noKey none n b ds [] _ (ht.tw.some_ h n hr) (ht.top h n hr) (by rw [← hpp]; exact hp) (hf.below hb0 (fun _ h => h)) hL (hJ [] _ _ h0 hb0) (Nat.le_trans hn0 hb0.size))
    have HB := hide hb0
    clear hJ hY h0 hb0 hf
    unfold treeV P
    unfold P at HE
    go_enter Tryz.func105, Tryz.ntmps105
    go_wp2_with (go_at_call 145; go_loud (refine HE.out.mono ?_; rintro e w3 (⟨rfl, hj3, hb3⟩ | ⟨rfl, q, hq, hx3⟩)))
    · go_end0
      exact ⟨rfl, .inl ⟨hj3, (HB.out.mono hn0).trans hb3⟩⟩
    · go_end0
      exact ⟨rfl, .inr ⟨q, hq, hx3⟩⟩
end
end Go.Proofs.YtemondlgcmpbbaaGreatDoor
