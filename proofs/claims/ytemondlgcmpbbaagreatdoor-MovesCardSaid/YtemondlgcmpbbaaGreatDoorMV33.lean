/- Walks: First, Last, Seek, Next, Prev. Printed by genCy.py. -/
import Derived.Test.YtemondlgcmpbbaaGreatDoorMV32
namespace Go.Proofs.YtemondlgcmpbbaaGreatDoor
open Go.RowKit
set_option maxRecDepth 100000
set_option maxHeartbeats 1000000 in
theorem zr0 (c t x : Nat) (τ : TxS) (s : DbS) (key : Str) (on : Bool) (stamp : Int) (w : World) (hC : zbj w c t key on stamp) (hT : TxAt w t τ) (hD : DbAt w x s) (hx : τ.db = x) (T : Tree) (ds : List Nat) (hk : τ.keys = T.keys) (hV : TreeV (fun z => z < w.heap.size) w T τ.root ds) (hR : TR T) (hp : T.pairs.length <= 150) :
   Calls Tryz.prog 43 #[.pointer (some ⟨c, 0, none⟩)] w (zfg c t τ s ⟨#[102, 105, 114, 115, 116]⟩ false on stamp (afterV false ⟨#[]⟩ (za5 T ⟨#[]⟩)) w) := by
 obtain ⟨q, hq⟩ := hV.ptr
 obtain ⟨W0, hW0⟩ : ∃ W0, W0 = w.alloc (.cells #[.string ⟨#[]⟩, .string ⟨#[]⟩] 68) := ⟨_, rfl⟩
 have hb0 : Below w.heap.size w W0 := by rw [hW0]; exact (Below.refl _ _).alloc (Nat.le_refl _) _
 have hbx : Blk W0 w.heap.size 68 #[.string ⟨#[]⟩, .string ⟨#[]⟩] := by rw [hW0]; exact Blk.new _ _ _
 have hD0 : DbAt W0 x s := Blk.below hD hb0 (Blk.lt hD)
 have hT0 : TxAt W0 t τ := Blk.below hT hb0 (Blk.lt hT)
 have hC0 : zbj W0 c t key on stamp := Blk.below hC hb0 (Blk.lt hC)
 have hxl : x < w.heap.size := Blk.lt hD
 have hcl : c < w.heap.size := Blk.lt hC
 have hcx : c ≠ x := Blk.ne_ hC hD (by decide)
 have HM := zaa (zgj c t x τ s ⟨#[102, 105, 114, 115, 116]⟩ key false on stamp 68 #[] W0 hC0 hT0 hD0 hx (afterV false ⟨#[]⟩ (za5 T ⟨#[]⟩)) q hq (enters_of Tryz.func68 (by kernel_rfl) rfl) (fun W ho => by
  have hv : TreeV (fun z => z < W.heap.size) W T (.pointer q) ds := by
   have h1 := hV.below hb0 (fun _ h => h)
   rw [hq] at h1
   exact (h1.only ho fun z T' cs hz hb hi e => by subst e; exact Blk.ne_ hb hD0 (fun e => zb1 (X := 91) (by decide) (by decide) (by decide) (e ▸ hi)) rfl).move (fun _ _ => rfl) fun z hz => Nat.lt_of_lt_of_le hz (Nat.le_trans hb0.size ho.size)
  have := zrz T q ds W hv hR hp
  rw [hk]
  exact this))
 have HBX := zaa hbx
 have HB0 := zaa hb0
 have HCL := zaa hcl
 obtain ⟨r, hr⟩ : ∃ r, r = afterV false ⟨#[]⟩ (za5 T ⟨#[]⟩) := ⟨_, rfl⟩
 rw [<- hr] at HM ⊢
 clear hC hT hD hV hR hp hq hbx hb0 hD0 hT0 hC0 hr
 subst hW0
 go_enter Tryz.func43, Tryz.ntmps43
 go_wp2_with (go_at_call 67; go_loud (
  refine HM.out.mono ?_; rintro e w2 hm
  have hx2 : Blk w2 w.heap.size 68 #[.string ⟨#[]⟩, .string ⟨#[]⟩] := by
   rcases hm with ⟨_, mb, _⟩ | ⟨_, _, mb, _⟩ | ⟨_, _, _, _, mo⟩
   . exact HBX.out.below mb HBX.out.lt
   . exact HBX.out.below mb HBX.out.lt
   . exact HBX.out.only mo (by have := HCL.out; omega)
  have g0 := zab hx2 0 rfl
  have g1 := zab hx2 1 rfl
  have z0 : w2.frozen? ⟨w.heap.size, 0, none⟩ = false := hx2.frozen 0
  have z1 : w2.frozen? ⟨w.heap.size, 1, none⟩ = false := hx2.frozen 1
  have HX2 := zaa hx2
  clear hx2
  rcases hm with ⟨m0, mb, f, rfl, mf, ml⟩ | ⟨m0, m1, mb, f, rfl, mf, ml⟩ | ⟨m0, m1, rfl, mc, mo⟩
  all_goals (have M0 := zaa m0; clear m0)
  all_goals (try (have M1 := zaa m1; clear m1))
  all_goals (try (have MB := zaa mb; have MF := zaa mf; have ML := zaa ml; clear mb mf ml))
  all_goals (try (have MC := zaa mc; have MO := zaa mo; clear mc mo))
  all_goals (try unfold zad)
  all_goals unfold zao))
 . obtain ⟨WE, hWE⟩ : ∃ WE, WE = (w2.setCell ⟨w.heap.size, 0, none⟩ (.string (rK none))).setCell ⟨w.heap.size, 1, none⟩ (.string (rV none)) := ⟨_, rfl⟩
   rw [<- hWE]
   have hxE : Blk WE w.heap.size 68 #[.string (rK none), .string (rV none)] := by rw [hWE]; exact (HX2.out.set_ 0 _).set_ 1 _
   have hoe : Only (fun y => y = w.heap.size) w2 WE := by rw [hWE]; exact (Only.set1 _ _ _ _).set2 _ _
   have hbw := HB0.out
   have hs2 := HX2.out.lt
   have hwe : Below w.heap.size w2 WE := hoe.to_below (by omega) (fun y e => by omega)
   have r0 := zab hxE 0 rfl
   have r1 := zab hxE 1 rfl
   refine bodyPost_ret (v := .tuple #[.agg #[.string (rK none), .string (rV none)], .bool false, zad f]) (by simp [results, Tryz.results43, go_sem, r0, r1, zad]) rfl ?_
   exact .inl ⟨M0.out, (hbw.trans (MB.out.mono hbw.size)).trans hwe, f, rfl, Blk.only MF.out hoe (by have := ML.out; have := HBX.out.lt; omega), Nat.le_trans hbw.size ML.out⟩
 . obtain ⟨WE, hWE⟩ : ∃ WE, WE = (w2.setCell ⟨w.heap.size, 0, none⟩ (.string (rK none))).setCell ⟨w.heap.size, 1, none⟩ (.string (rV none)) := ⟨_, rfl⟩
   rw [<- hWE]
   have hxE : Blk WE w.heap.size 68 #[.string (rK none), .string (rV none)] := by rw [hWE]; exact (HX2.out.set_ 0 _).set_ 1 _
   have hoe : Only (fun y => y = w.heap.size) w2 WE := by rw [hWE]; exact (Only.set1 _ _ _ _).set2 _ _
   have hbw := HB0.out
   have hs2 := HX2.out.lt
   have hwe : Below w.heap.size w2 WE := hoe.to_below (by omega) (fun y e => by omega)
   have r0 := zab hxE 0 rfl
   have r1 := zab hxE 1 rfl
   refine bodyPost_ret (v := .tuple #[.agg #[.string (rK none), .string (rV none)], .bool false, zad f]) (by simp [results, Tryz.results43, go_sem, r0, r1, zad]) rfl ?_
   exact .inr (.inl ⟨M0.out, (by simpa using M1.out), (hbw.trans (MB.out.mono hbw.size)).trans hwe, f, rfl, Blk.only MF.out hoe (by have := ML.out; have := HBX.out.lt; omega), Nat.le_trans hbw.size ML.out⟩)
 . obtain ⟨WE, hWE⟩ : ∃ WE, WE = (w2.setCell ⟨w.heap.size, 0, none⟩ (.string (rK r))).setCell ⟨w.heap.size, 1, none⟩ (.string (rV r)) := ⟨_, rfl⟩
   rw [<- hWE]
   have hxE : Blk WE w.heap.size 68 #[.string (rK r), .string (rV r)] := by rw [hWE]; exact (HX2.out.set_ 0 _).set_ 1 _
   have hoe : Only (fun y => y = w.heap.size) w2 WE := by rw [hWE]; exact (Only.set1 _ _ _ _).set2 _ _
   have hbw := HB0.out
   have hs2 := HX2.out.lt
   have hwe : Below w.heap.size w2 WE := hoe.to_below (by omega) (fun y e => by omega)
   have r0 := zab hxE 0 rfl
   have r1 := zab hxE 1 rfl
   refine bodyPost_ret (v := .tuple #[.agg #[.string (rK r), .string (rV r)], .bool r.isSome, .nilIface]) (by simp [results, Tryz.results43, go_sem, r0, r1]) rfl ?_
   exact .inr (.inr ⟨M0.out, (.inl rfl), rfl, Blk.only MC.out hoe (by have := HCL.out; omega), ((Only.of_below hbw).trans MO.out).trans' hoe (fun y hy e => by subst e; omega)⟩)
set_option maxHeartbeats 1000000 in
theorem zts (c t x : Nat) (τ : TxS) (s : DbS) (key : Str) (on : Bool) (stamp : Int) (w : World) (hC : zbj w c t key on stamp) (hT : TxAt w t τ) (hD : DbAt w x s) (hx : τ.db = x) (T : Tree) (ds : List Nat) (hk : τ.keys = T.keys) (hV : TreeV (fun z => z < w.heap.size) w T τ.root ds) (hR : TR T) (hp : T.pairs.length <= 150) :
   Calls Tryz.prog 45 #[.pointer (some ⟨c, 0, none⟩)] w (zfg c t τ s ⟨#[108, 97, 115, 116]⟩ false on stamp (zcv T ⟨#[]⟩ true) w) := by
 obtain ⟨q, hq⟩ := hV.ptr
 obtain ⟨W0, hW0⟩ : ∃ W0, W0 = w.alloc (.cells #[.string ⟨#[]⟩, .string ⟨#[]⟩] 68) := ⟨_, rfl⟩
 have hb0 : Below w.heap.size w W0 := by rw [hW0]; exact (Below.refl _ _).alloc (Nat.le_refl _) _
 have hbx : Blk W0 w.heap.size 68 #[.string ⟨#[]⟩, .string ⟨#[]⟩] := by rw [hW0]; exact Blk.new _ _ _
 have hD0 : DbAt W0 x s := Blk.below hD hb0 (Blk.lt hD)
 have hT0 : TxAt W0 t τ := Blk.below hT hb0 (Blk.lt hT)
 have hC0 : zbj W0 c t key on stamp := Blk.below hC hb0 (Blk.lt hC)
 have hxl : x < w.heap.size := Blk.lt hD
 have hcl : c < w.heap.size := Blk.lt hC
 have hcx : c ≠ x := Blk.ne_ hC hD (by decide)
 have HM := zaa (zgj c t x τ s ⟨#[108, 97, 115, 116]⟩ key false on stamp 71 #[] W0 hC0 hT0 hD0 hx (zcv T ⟨#[]⟩ true) q hq (enters_of Tryz.func71 (by kernel_rfl) rfl) (fun W ho => by
  have hv : TreeV (fun z => z < W.heap.size) W T (.pointer q) ds := by
   have h1 := hV.below hb0 (fun _ h => h)
   rw [hq] at h1
   exact (h1.only ho fun z T' cs hz hb hi e => by subst e; exact Blk.ne_ hb hD0 (fun e => zb1 (X := 91) (by decide) (by decide) (by decide) (e ▸ hi)) rfl).move (fun _ _ => rfl) fun z hz => Nat.lt_of_lt_of_le hz (Nat.le_trans hb0.size ho.size)
  have := zto T q ds W hv hR hp
  rw [hk]
  exact this))
 have HBX := zaa hbx
 have HB0 := zaa hb0
 have HCL := zaa hcl
 obtain ⟨r, hr⟩ : ∃ r, r = zcv T ⟨#[]⟩ true := ⟨_, rfl⟩
 rw [<- hr] at HM ⊢
 clear hC hT hD hV hR hp hq hbx hb0 hD0 hT0 hC0 hr
 subst hW0
 go_enter Tryz.func45, Tryz.ntmps45
 go_wp2_with (go_at_call 67; go_loud (
  refine HM.out.mono ?_; rintro e w2 hm
  have hx2 : Blk w2 w.heap.size 68 #[.string ⟨#[]⟩, .string ⟨#[]⟩] := by
   rcases hm with ⟨_, mb, _⟩ | ⟨_, _, mb, _⟩ | ⟨_, _, _, _, mo⟩
   . exact HBX.out.below mb HBX.out.lt
   . exact HBX.out.below mb HBX.out.lt
   . exact HBX.out.only mo (by have := HCL.out; omega)
  have g0 := zab hx2 0 rfl
  have g1 := zab hx2 1 rfl
  have z0 : w2.frozen? ⟨w.heap.size, 0, none⟩ = false := hx2.frozen 0
  have z1 : w2.frozen? ⟨w.heap.size, 1, none⟩ = false := hx2.frozen 1
  have HX2 := zaa hx2
  clear hx2
  rcases hm with ⟨m0, mb, f, rfl, mf, ml⟩ | ⟨m0, m1, mb, f, rfl, mf, ml⟩ | ⟨m0, m1, rfl, mc, mo⟩
  all_goals (have M0 := zaa m0; clear m0)
  all_goals (try (have M1 := zaa m1; clear m1))
  all_goals (try (have MB := zaa mb; have MF := zaa mf; have ML := zaa ml; clear mb mf ml))
  all_goals (try (have MC := zaa mc; have MO := zaa mo; clear mc mo))
  all_goals (try unfold zad)
  all_goals unfold zao))
 . obtain ⟨WE, hWE⟩ : ∃ WE, WE = (w2.setCell ⟨w.heap.size, 0, none⟩ (.string (rK none))).setCell ⟨w.heap.size, 1, none⟩ (.string (rV none)) := ⟨_, rfl⟩
   rw [<- hWE]
   have hxE : Blk WE w.heap.size 68 #[.string (rK none), .string (rV none)] := by rw [hWE]; exact (HX2.out.set_ 0 _).set_ 1 _
   have hoe : Only (fun y => y = w.heap.size) w2 WE := by rw [hWE]; exact (Only.set1 _ _ _ _).set2 _ _
   have hbw := HB0.out
   have hs2 := HX2.out.lt
   have hwe : Below w.heap.size w2 WE := hoe.to_below (by omega) (fun y e => by omega)
   have r0 := zab hxE 0 rfl
   have r1 := zab hxE 1 rfl
   refine bodyPost_ret (v := .tuple #[.agg #[.string (rK none), .string (rV none)], .bool false, zad f]) (by simp [results, Tryz.results45, go_sem, r0, r1, zad]) rfl ?_
   exact .inl ⟨M0.out, (hbw.trans (MB.out.mono hbw.size)).trans hwe, f, rfl, Blk.only MF.out hoe (by have := ML.out; have := HBX.out.lt; omega), Nat.le_trans hbw.size ML.out⟩
 . obtain ⟨WE, hWE⟩ : ∃ WE, WE = (w2.setCell ⟨w.heap.size, 0, none⟩ (.string (rK none))).setCell ⟨w.heap.size, 1, none⟩ (.string (rV none)) := ⟨_, rfl⟩
   rw [<- hWE]
   have hxE : Blk WE w.heap.size 68 #[.string (rK none), .string (rV none)] := by rw [hWE]; exact (HX2.out.set_ 0 _).set_ 1 _
   have hoe : Only (fun y => y = w.heap.size) w2 WE := by rw [hWE]; exact (Only.set1 _ _ _ _).set2 _ _
   have hbw := HB0.out
   have hs2 := HX2.out.lt
   have hwe : Below w.heap.size w2 WE := hoe.to_below (by omega) (fun y e => by omega)
   have r0 := zab hxE 0 rfl
   have r1 := zab hxE 1 rfl
   refine bodyPost_ret (v := .tuple #[.agg #[.string (rK none), .string (rV none)], .bool false, zad f]) (by simp [results, Tryz.results45, go_sem, r0, r1, zad]) rfl ?_
   exact .inr (.inl ⟨M0.out, (by simpa using M1.out), (hbw.trans (MB.out.mono hbw.size)).trans hwe, f, rfl, Blk.only MF.out hoe (by have := ML.out; have := HBX.out.lt; omega), Nat.le_trans hbw.size ML.out⟩)
 . obtain ⟨WE, hWE⟩ : ∃ WE, WE = (w2.setCell ⟨w.heap.size, 0, none⟩ (.string (rK r))).setCell ⟨w.heap.size, 1, none⟩ (.string (rV r)) := ⟨_, rfl⟩
   rw [<- hWE]
   have hxE : Blk WE w.heap.size 68 #[.string (rK r), .string (rV r)] := by rw [hWE]; exact (HX2.out.set_ 0 _).set_ 1 _
   have hoe : Only (fun y => y = w.heap.size) w2 WE := by rw [hWE]; exact (Only.set1 _ _ _ _).set2 _ _
   have hbw := HB0.out
   have hs2 := HX2.out.lt
   have hwe : Below w.heap.size w2 WE := hoe.to_below (by omega) (fun y e => by omega)
   have r0 := zab hxE 0 rfl
   have r1 := zab hxE 1 rfl
   refine bodyPost_ret (v := .tuple #[.agg #[.string (rK r), .string (rV r)], .bool r.isSome, .nilIface]) (by simp [results, Tryz.results45, go_sem, r0, r1]) rfl ?_
   exact .inr (.inr ⟨M0.out, (.inl rfl), rfl, Blk.only MC.out hoe (by have := HCL.out; omega), ((Only.of_below hbw).trans MO.out).trans' hoe (fun y hy e => by subst e; omega)⟩)
set_option maxHeartbeats 1000000 in
theorem ztt (c t x : Nat) (τ : TxS) (s : DbS) (key : Str) (on : Bool) (stamp : Int) (k : Str) (w : World) (hC : zbj w c t key on stamp) (hT : TxAt w t τ) (hD : DbAt w x s) (hx : τ.db = x) (T : Tree) (ds : List Nat) (hk : τ.keys = T.keys) (hV : TreeV (fun z => z < w.heap.size) w T τ.root ds) (hR : TR T) (hp : T.pairs.length <= 150) :
   Calls Tryz.prog 47 #[.pointer (some ⟨c, 0, none⟩), .string k] w (zfg c t τ s ⟨#[115, 101, 101, 107]⟩ false on stamp (afterV false k (za5 T k)) w) := by
 obtain ⟨q, hq⟩ := hV.ptr
 obtain ⟨W0, hW0⟩ : ∃ W0, W0 = (w.alloc (.cells #[.string k] 9)).alloc (.cells #[.string ⟨#[]⟩, .string ⟨#[]⟩] 68) := ⟨_, rfl⟩
 have hb0 : Below w.heap.size w W0 := by rw [hW0]; exact ((Below.refl _ _).alloc (Nat.le_refl _) _).alloc (by simp) _
 have hbx : Blk W0 (w.heap.size + 1) 68 #[.string ⟨#[]⟩, .string ⟨#[]⟩] := by rw [hW0]; exact Blk.new2 _ _ _ _
 have hD0 : DbAt W0 x s := Blk.below hD hb0 (Blk.lt hD)
 have hT0 : TxAt W0 t τ := Blk.below hT hb0 (Blk.lt hT)
 have hC0 : zbj W0 c t key on stamp := Blk.below hC hb0 (Blk.lt hC)
 have hxl : x < w.heap.size := Blk.lt hD
 have hcl : c < w.heap.size := Blk.lt hC
 have hcx : c ≠ x := Blk.ne_ hC hD (by decide)
 have hkb : Blk W0 w.heap.size 9 #[.string k] := by rw [hW0]; exact (Blk.new _ _ _).alloc _
 have HM := zaa (zgj c t x τ s ⟨#[115, 101, 101, 107]⟩ key false on stamp 74 #[.pointer (some ⟨w.heap.size, 0, none⟩)] W0 hC0 hT0 hD0 hx (afterV false k (za5 T k)) q hq (enters_of Tryz.func74 (by kernel_rfl) rfl) (fun W ho => by
  have hv : TreeV (fun z => z < W.heap.size) W T (.pointer q) ds := by
   have h1 := hV.below hb0 (fun _ h => h)
   rw [hq] at h1
   exact (h1.only ho fun z T' cs hz hb hi e => by subst e; exact Blk.ne_ hb hD0 (fun e => zb1 (X := 91) (by decide) (by decide) (by decide) (e ▸ hi)) rfl).move (fun _ _ => rfl) fun z hz => Nat.lt_of_lt_of_le hz (Nat.le_trans hb0.size ho.size)
  have := ztp T q ds W hv hR hp k w.heap.size (hkb.only ho (by omega))
  rw [hk]
  exact this))
 have HBX := zaa hbx
 have HB0 := zaa hb0
 have HCL := zaa hcl
 obtain ⟨r, hr⟩ : ∃ r, r = afterV false k (za5 T k) := ⟨_, rfl⟩
 rw [<- hr] at HM ⊢
 clear hC hT hD hV hR hp hq hbx hb0 hD0 hT0 hC0 hr hkb
 subst hW0
 go_enter Tryz.func47, Tryz.ntmps47
 go_wp2_with (go_at_call 67; go_loud (
  refine HM.out.mono ?_; rintro e w2 hm
  have hx2 : Blk w2 (w.heap.size + 1) 68 #[.string ⟨#[]⟩, .string ⟨#[]⟩] := by
   rcases hm with ⟨_, mb, _⟩ | ⟨_, _, mb, _⟩ | ⟨_, _, _, _, mo⟩
   . exact HBX.out.below mb HBX.out.lt
   . exact HBX.out.below mb HBX.out.lt
   . exact HBX.out.only mo (by have := HCL.out; omega)
  have g0 := zab hx2 0 rfl
  have g1 := zab hx2 1 rfl
  have z0 : w2.frozen? ⟨(w.heap.size + 1), 0, none⟩ = false := hx2.frozen 0
  have z1 : w2.frozen? ⟨(w.heap.size + 1), 1, none⟩ = false := hx2.frozen 1
  have HX2 := zaa hx2
  clear hx2
  rcases hm with ⟨m0, mb, f, rfl, mf, ml⟩ | ⟨m0, m1, mb, f, rfl, mf, ml⟩ | ⟨m0, m1, rfl, mc, mo⟩
  all_goals (have M0 := zaa m0; clear m0)
  all_goals (try (have M1 := zaa m1; clear m1))
  all_goals (try (have MB := zaa mb; have MF := zaa mf; have ML := zaa ml; clear mb mf ml))
  all_goals (try (have MC := zaa mc; have MO := zaa mo; clear mc mo))
  all_goals (try unfold zad)
  all_goals unfold zao))
 . obtain ⟨WE, hWE⟩ : ∃ WE, WE = (w2.setCell ⟨(w.heap.size + 1), 0, none⟩ (.string (rK none))).setCell ⟨(w.heap.size + 1), 1, none⟩ (.string (rV none)) := ⟨_, rfl⟩
   rw [<- hWE]
   have hxE : Blk WE (w.heap.size + 1) 68 #[.string (rK none), .string (rV none)] := by rw [hWE]; exact (HX2.out.set_ 0 _).set_ 1 _
   have hoe : Only (fun y => y = (w.heap.size + 1)) w2 WE := by rw [hWE]; exact (Only.set1 _ _ _ _).set2 _ _
   have hbw := HB0.out
   have hs2 := HX2.out.lt
   have hwe : Below w.heap.size w2 WE := hoe.to_below (by omega) (fun y e => by omega)
   have r0 := zab hxE 0 rfl
   have r1 := zab hxE 1 rfl
   refine bodyPost_ret (v := .tuple #[.agg #[.string (rK none), .string (rV none)], .bool false, zad f]) (by simp [results, Tryz.results47, go_sem, r0, r1, zad]) rfl ?_
   exact .inl ⟨M0.out, (hbw.trans (MB.out.mono hbw.size)).trans hwe, f, rfl, Blk.only MF.out hoe (by have := ML.out; have := HBX.out.lt; omega), Nat.le_trans hbw.size ML.out⟩
 . obtain ⟨WE, hWE⟩ : ∃ WE, WE = (w2.setCell ⟨(w.heap.size + 1), 0, none⟩ (.string (rK none))).setCell ⟨(w.heap.size + 1), 1, none⟩ (.string (rV none)) := ⟨_, rfl⟩
   rw [<- hWE]
   have hxE : Blk WE (w.heap.size + 1) 68 #[.string (rK none), .string (rV none)] := by rw [hWE]; exact (HX2.out.set_ 0 _).set_ 1 _
   have hoe : Only (fun y => y = (w.heap.size + 1)) w2 WE := by rw [hWE]; exact (Only.set1 _ _ _ _).set2 _ _
   have hbw := HB0.out
   have hs2 := HX2.out.lt
   have hwe : Below w.heap.size w2 WE := hoe.to_below (by omega) (fun y e => by omega)
   have r0 := zab hxE 0 rfl
   have r1 := zab hxE 1 rfl
   refine bodyPost_ret (v := .tuple #[.agg #[.string (rK none), .string (rV none)], .bool false, zad f]) (by simp [results, Tryz.results47, go_sem, r0, r1, zad]) rfl ?_
   exact .inr (.inl ⟨M0.out, (by simpa using M1.out), (hbw.trans (MB.out.mono hbw.size)).trans hwe, f, rfl, Blk.only MF.out hoe (by have := ML.out; have := HBX.out.lt; omega), Nat.le_trans hbw.size ML.out⟩)
 . obtain ⟨WE, hWE⟩ : ∃ WE, WE = (w2.setCell ⟨(w.heap.size + 1), 0, none⟩ (.string (rK r))).setCell ⟨(w.heap.size + 1), 1, none⟩ (.string (rV r)) := ⟨_, rfl⟩
   rw [<- hWE]
   have hxE : Blk WE (w.heap.size + 1) 68 #[.string (rK r), .string (rV r)] := by rw [hWE]; exact (HX2.out.set_ 0 _).set_ 1 _
   have hoe : Only (fun y => y = (w.heap.size + 1)) w2 WE := by rw [hWE]; exact (Only.set1 _ _ _ _).set2 _ _
   have hbw := HB0.out
   have hs2 := HX2.out.lt
   have hwe : Below w.heap.size w2 WE := hoe.to_below (by omega) (fun y e => by omega)
   have r0 := zab hxE 0 rfl
   have r1 := zab hxE 1 rfl
   refine bodyPost_ret (v := .tuple #[.agg #[.string (rK r), .string (rV r)], .bool r.isSome, .nilIface]) (by simp [results, Tryz.results47, go_sem, r0, r1]) rfl ?_
   exact .inr (.inr ⟨M0.out, (.inl rfl), rfl, Blk.only MC.out hoe (by have := HCL.out; omega), ((Only.of_below hbw).trans MO.out).trans' hoe (fun y hy e => by subst e; omega)⟩)
set_option maxHeartbeats 1000000 in
theorem ztu (c t x : Nat) (τ : TxS) (s : DbS) (key : Str) (on : Bool) (stamp : Int) (w : World) (hC : zbj w c t key on stamp) (hT : TxAt w t τ) (hD : DbAt w x s) (hx : τ.db = x) (T : Tree) (ds : List Nat) (hk : τ.keys = T.keys) (hV : TreeV (fun z => z < w.heap.size) w T τ.root ds) (hR : TR T) (hp : T.pairs.length <= 150) :
   Calls Tryz.prog 44 #[.pointer (some ⟨c, 0, none⟩)] w (zfg c t τ s ⟨#[110, 101, 120, 116]⟩ true on stamp (afterV true key (za5 T key)) w) := by
 obtain ⟨q, hq⟩ := hV.ptr
 obtain ⟨W0, hW0⟩ : ∃ W0, W0 = (w.alloc (.cells #[.pointer (some ⟨c, 0, none⟩)] 64)).alloc (.cells #[.string ⟨#[]⟩, .string ⟨#[]⟩] 68) := ⟨_, rfl⟩
 have hb0 : Below w.heap.size w W0 := by rw [hW0]; exact ((Below.refl _ _).alloc (Nat.le_refl _) _).alloc (by simp) _
 have hbx : Blk W0 (w.heap.size + 1) 68 #[.string ⟨#[]⟩, .string ⟨#[]⟩] := by rw [hW0]; exact Blk.new2 _ _ _ _
 have hD0 : DbAt W0 x s := Blk.below hD hb0 (Blk.lt hD)
 have hT0 : TxAt W0 t τ := Blk.below hT hb0 (Blk.lt hT)
 have hC0 : zbj W0 c t key on stamp := Blk.below hC hb0 (Blk.lt hC)
 have hxl : x < w.heap.size := Blk.lt hD
 have hcl : c < w.heap.size := Blk.lt hC
 have hcx : c ≠ x := Blk.ne_ hC hD (by decide)
 have hkb : Blk W0 w.heap.size 64 #[.pointer (some ⟨c, 0, none⟩)] := by rw [hW0]; exact (Blk.new _ _ _).alloc _
 have HM := zaa (zgj c t x τ s ⟨#[110, 101, 120, 116]⟩ key true on stamp 70 #[.pointer (some ⟨w.heap.size, 0, none⟩)] W0 hC0 hT0 hD0 hx (afterV true key (za5 T key)) q hq (enters_of Tryz.func70 (by kernel_rfl) rfl) (fun W ho => by
  have hv : TreeV (fun z => z < W.heap.size) W T (.pointer q) ds := by
   have h1 := hV.below hb0 (fun _ h => h)
   rw [hq] at h1
   exact (h1.only ho fun z T' cs hz hb hi e => by subst e; exact Blk.ne_ hb hD0 (fun e => zb1 (X := 91) (by decide) (by decide) (by decide) (e ▸ hi)) rfl).move (fun _ _ => rfl) fun z hz => Nat.lt_of_lt_of_le hz (Nat.le_trans hb0.size ho.size)
  have := ztq T q ds W hv hR hp c w.heap.size t key on stamp (Blk.only hC0 ho hcx) (hkb.only ho (by omega))
  rw [hk]
  exact this))
 have HBX := zaa hbx
 have HB0 := zaa hb0
 have HCL := zaa hcl
 obtain ⟨r, hr⟩ : ∃ r, r = afterV true key (za5 T key) := ⟨_, rfl⟩
 rw [<- hr] at HM ⊢
 clear hC hT hD hV hR hp hq hbx hb0 hD0 hT0 hC0 hr hkb
 subst hW0
 go_enter Tryz.func44, Tryz.ntmps44
 go_wp2_with (go_at_call 67; go_loud (
  refine HM.out.mono ?_; rintro e w2 hm
  have hx2 : Blk w2 (w.heap.size + 1) 68 #[.string ⟨#[]⟩, .string ⟨#[]⟩] := by
   rcases hm with ⟨_, mb, _⟩ | ⟨_, _, mb, _⟩ | ⟨_, _, _, _, mo⟩
   . exact HBX.out.below mb HBX.out.lt
   . exact HBX.out.below mb HBX.out.lt
   . exact HBX.out.only mo (by have := HCL.out; omega)
  have g0 := zab hx2 0 rfl
  have g1 := zab hx2 1 rfl
  have z0 : w2.frozen? ⟨(w.heap.size + 1), 0, none⟩ = false := hx2.frozen 0
  have z1 : w2.frozen? ⟨(w.heap.size + 1), 1, none⟩ = false := hx2.frozen 1
  have HX2 := zaa hx2
  clear hx2
  rcases hm with ⟨m0, mb, f, rfl, mf, ml⟩ | ⟨m0, m1, mb, f, rfl, mf, ml⟩ | ⟨m0, m1, rfl, mc, mo⟩
  all_goals (have M0 := zaa m0; clear m0)
  all_goals (try (have M1 := zaa m1; clear m1))
  all_goals (try (have MB := zaa mb; have MF := zaa mf; have ML := zaa ml; clear mb mf ml))
  all_goals (try (have MC := zaa mc; have MO := zaa mo; clear mc mo))
  all_goals (try unfold zad)
  all_goals unfold zao))
 . obtain ⟨WE, hWE⟩ : ∃ WE, WE = (w2.setCell ⟨(w.heap.size + 1), 0, none⟩ (.string (rK none))).setCell ⟨(w.heap.size + 1), 1, none⟩ (.string (rV none)) := ⟨_, rfl⟩
   rw [<- hWE]
   have hxE : Blk WE (w.heap.size + 1) 68 #[.string (rK none), .string (rV none)] := by rw [hWE]; exact (HX2.out.set_ 0 _).set_ 1 _
   have hoe : Only (fun y => y = (w.heap.size + 1)) w2 WE := by rw [hWE]; exact (Only.set1 _ _ _ _).set2 _ _
   have hbw := HB0.out
   have hs2 := HX2.out.lt
   have hwe : Below w.heap.size w2 WE := hoe.to_below (by omega) (fun y e => by omega)
   have r0 := zab hxE 0 rfl
   have r1 := zab hxE 1 rfl
   refine bodyPost_ret (v := .tuple #[.agg #[.string (rK none), .string (rV none)], .bool false, zad f]) (by simp [results, Tryz.results44, go_sem, r0, r1, zad]) rfl ?_
   exact .inl ⟨M0.out, (hbw.trans (MB.out.mono hbw.size)).trans hwe, f, rfl, Blk.only MF.out hoe (by have := ML.out; have := HBX.out.lt; omega), Nat.le_trans hbw.size ML.out⟩
 . obtain ⟨WE, hWE⟩ : ∃ WE, WE = (w2.setCell ⟨(w.heap.size + 1), 0, none⟩ (.string (rK none))).setCell ⟨(w.heap.size + 1), 1, none⟩ (.string (rV none)) := ⟨_, rfl⟩
   rw [<- hWE]
   have hxE : Blk WE (w.heap.size + 1) 68 #[.string (rK none), .string (rV none)] := by rw [hWE]; exact (HX2.out.set_ 0 _).set_ 1 _
   have hoe : Only (fun y => y = (w.heap.size + 1)) w2 WE := by rw [hWE]; exact (Only.set1 _ _ _ _).set2 _ _
   have hbw := HB0.out
   have hs2 := HX2.out.lt
   have hwe : Below w.heap.size w2 WE := hoe.to_below (by omega) (fun y e => by omega)
   have r0 := zab hxE 0 rfl
   have r1 := zab hxE 1 rfl
   refine bodyPost_ret (v := .tuple #[.agg #[.string (rK none), .string (rV none)], .bool false, zad f]) (by simp [results, Tryz.results44, go_sem, r0, r1, zad]) rfl ?_
   exact .inr (.inl ⟨M0.out, (by simpa using M1.out), (hbw.trans (MB.out.mono hbw.size)).trans hwe, f, rfl, Blk.only MF.out hoe (by have := ML.out; have := HBX.out.lt; omega), Nat.le_trans hbw.size ML.out⟩)
 . obtain ⟨WE, hWE⟩ : ∃ WE, WE = (w2.setCell ⟨(w.heap.size + 1), 0, none⟩ (.string (rK r))).setCell ⟨(w.heap.size + 1), 1, none⟩ (.string (rV r)) := ⟨_, rfl⟩
   rw [<- hWE]
   have hxE : Blk WE (w.heap.size + 1) 68 #[.string (rK r), .string (rV r)] := by rw [hWE]; exact (HX2.out.set_ 0 _).set_ 1 _
   have hoe : Only (fun y => y = (w.heap.size + 1)) w2 WE := by rw [hWE]; exact (Only.set1 _ _ _ _).set2 _ _
   have hbw := HB0.out
   have hs2 := HX2.out.lt
   have hwe : Below w.heap.size w2 WE := hoe.to_below (by omega) (fun y e => by omega)
   have r0 := zab hxE 0 rfl
   have r1 := zab hxE 1 rfl
   refine bodyPost_ret (v := .tuple #[.agg #[.string (rK r), .string (rV r)], .bool r.isSome, .nilIface]) (by simp [results, Tryz.results44, go_sem, r0, r1]) rfl ?_
   exact .inr (.inr ⟨M0.out, (by simpa using M1.out), rfl, Blk.only MC.out hoe (by have := HCL.out; omega), ((Only.of_below hbw).trans MO.out).trans' hoe (fun y hy e => by subst e; omega)⟩)
set_option maxHeartbeats 1000000 in
theorem ztv (c t x : Nat) (τ : TxS) (s : DbS) (key : Str) (on : Bool) (stamp : Int) (w : World) (hC : zbj w c t key on stamp) (hT : TxAt w t τ) (hD : DbAt w x s) (hx : τ.db = x) (T : Tree) (ds : List Nat) (hk : τ.keys = T.keys) (hV : TreeV (fun z => z < w.heap.size) w T τ.root ds) (hR : TR T) (hp : T.pairs.length <= 150) :
   Calls Tryz.prog 46 #[.pointer (some ⟨c, 0, none⟩)] w (zfg c t τ s ⟨#[112, 114, 101, 118]⟩ true on stamp (zcv T key false) w) := by
 obtain ⟨q, hq⟩ := hV.ptr
 obtain ⟨W0, hW0⟩ : ∃ W0, W0 = (w.alloc (.cells #[.pointer (some ⟨c, 0, none⟩)] 64)).alloc (.cells #[.string ⟨#[]⟩, .string ⟨#[]⟩] 68) := ⟨_, rfl⟩
 have hb0 : Below w.heap.size w W0 := by rw [hW0]; exact ((Below.refl _ _).alloc (Nat.le_refl _) _).alloc (by simp) _
 have hbx : Blk W0 (w.heap.size + 1) 68 #[.string ⟨#[]⟩, .string ⟨#[]⟩] := by rw [hW0]; exact Blk.new2 _ _ _ _
 have hD0 : DbAt W0 x s := Blk.below hD hb0 (Blk.lt hD)
 have hT0 : TxAt W0 t τ := Blk.below hT hb0 (Blk.lt hT)
 have hC0 : zbj W0 c t key on stamp := Blk.below hC hb0 (Blk.lt hC)
 have hxl : x < w.heap.size := Blk.lt hD
 have hcl : c < w.heap.size := Blk.lt hC
 have hcx : c ≠ x := Blk.ne_ hC hD (by decide)
 have hkb : Blk W0 w.heap.size 64 #[.pointer (some ⟨c, 0, none⟩)] := by rw [hW0]; exact (Blk.new _ _ _).alloc _
 have HM := zaa (zgj c t x τ s ⟨#[112, 114, 101, 118]⟩ key true on stamp 73 #[.pointer (some ⟨w.heap.size, 0, none⟩)] W0 hC0 hT0 hD0 hx (zcv T key false) q hq (enters_of Tryz.func73 (by kernel_rfl) rfl) (fun W ho => by
  have hv : TreeV (fun z => z < W.heap.size) W T (.pointer q) ds := by
   have h1 := hV.below hb0 (fun _ h => h)
   rw [hq] at h1
   exact (h1.only ho fun z T' cs hz hb hi e => by subst e; exact Blk.ne_ hb hD0 (fun e => zb1 (X := 91) (by decide) (by decide) (by decide) (e ▸ hi)) rfl).move (fun _ _ => rfl) fun z hz => Nat.lt_of_lt_of_le hz (Nat.le_trans hb0.size ho.size)
  have := ztr T q ds W hv hR hp c w.heap.size t key on stamp (Blk.only hC0 ho hcx) (hkb.only ho (by omega))
  rw [hk]
  exact this))
 have HBX := zaa hbx
 have HB0 := zaa hb0
 have HCL := zaa hcl
 obtain ⟨r, hr⟩ : ∃ r, r = zcv T key false := ⟨_, rfl⟩
 rw [<- hr] at HM ⊢
 clear hC hT hD hV hR hp hq hbx hb0 hD0 hT0 hC0 hr hkb
 subst hW0
 go_enter Tryz.func46, Tryz.ntmps46
 go_wp2_with (go_at_call 67; go_loud (
  refine HM.out.mono ?_; rintro e w2 hm
  have hx2 : Blk w2 (w.heap.size + 1) 68 #[.string ⟨#[]⟩, .string ⟨#[]⟩] := by
   rcases hm with ⟨_, mb, _⟩ | ⟨_, _, mb, _⟩ | ⟨_, _, _, _, mo⟩
   . exact HBX.out.below mb HBX.out.lt
   . exact HBX.out.below mb HBX.out.lt
   . exact HBX.out.only mo (by have := HCL.out; omega)
  have g0 := zab hx2 0 rfl
  have g1 := zab hx2 1 rfl
  have z0 : w2.frozen? ⟨(w.heap.size + 1), 0, none⟩ = false := hx2.frozen 0
  have z1 : w2.frozen? ⟨(w.heap.size + 1), 1, none⟩ = false := hx2.frozen 1
  have HX2 := zaa hx2
  clear hx2
  rcases hm with ⟨m0, mb, f, rfl, mf, ml⟩ | ⟨m0, m1, mb, f, rfl, mf, ml⟩ | ⟨m0, m1, rfl, mc, mo⟩
  all_goals (have M0 := zaa m0; clear m0)
  all_goals (try (have M1 := zaa m1; clear m1))
  all_goals (try (have MB := zaa mb; have MF := zaa mf; have ML := zaa ml; clear mb mf ml))
  all_goals (try (have MC := zaa mc; have MO := zaa mo; clear mc mo))
  all_goals (try unfold zad)
  all_goals unfold zao))
 . obtain ⟨WE, hWE⟩ : ∃ WE, WE = (w2.setCell ⟨(w.heap.size + 1), 0, none⟩ (.string (rK none))).setCell ⟨(w.heap.size + 1), 1, none⟩ (.string (rV none)) := ⟨_, rfl⟩
   rw [<- hWE]
   have hxE : Blk WE (w.heap.size + 1) 68 #[.string (rK none), .string (rV none)] := by rw [hWE]; exact (HX2.out.set_ 0 _).set_ 1 _
   have hoe : Only (fun y => y = (w.heap.size + 1)) w2 WE := by rw [hWE]; exact (Only.set1 _ _ _ _).set2 _ _
   have hbw := HB0.out
   have hs2 := HX2.out.lt
   have hwe : Below w.heap.size w2 WE := hoe.to_below (by omega) (fun y e => by omega)
   have r0 := zab hxE 0 rfl
   have r1 := zab hxE 1 rfl
   refine bodyPost_ret (v := .tuple #[.agg #[.string (rK none), .string (rV none)], .bool false, zad f]) (by simp [results, Tryz.results46, go_sem, r0, r1, zad]) rfl ?_
   exact .inl ⟨M0.out, (hbw.trans (MB.out.mono hbw.size)).trans hwe, f, rfl, Blk.only MF.out hoe (by have := ML.out; have := HBX.out.lt; omega), Nat.le_trans hbw.size ML.out⟩
 . obtain ⟨WE, hWE⟩ : ∃ WE, WE = (w2.setCell ⟨(w.heap.size + 1), 0, none⟩ (.string (rK none))).setCell ⟨(w.heap.size + 1), 1, none⟩ (.string (rV none)) := ⟨_, rfl⟩
   rw [<- hWE]
   have hxE : Blk WE (w.heap.size + 1) 68 #[.string (rK none), .string (rV none)] := by rw [hWE]; exact (HX2.out.set_ 0 _).set_ 1 _
   have hoe : Only (fun y => y = (w.heap.size + 1)) w2 WE := by rw [hWE]; exact (Only.set1 _ _ _ _).set2 _ _
   have hbw := HB0.out
   have hs2 := HX2.out.lt
   have hwe : Below w.heap.size w2 WE := hoe.to_below (by omega) (fun y e => by omega)
   have r0 := zab hxE 0 rfl
   have r1 := zab hxE 1 rfl
   refine bodyPost_ret (v := .tuple #[.agg #[.string (rK none), .string (rV none)], .bool false, zad f]) (by simp [results, Tryz.results46, go_sem, r0, r1, zad]) rfl ?_
   exact .inr (.inl ⟨M0.out, (by simpa using M1.out), (hbw.trans (MB.out.mono hbw.size)).trans hwe, f, rfl, Blk.only MF.out hoe (by have := ML.out; have := HBX.out.lt; omega), Nat.le_trans hbw.size ML.out⟩)
 . obtain ⟨WE, hWE⟩ : ∃ WE, WE = (w2.setCell ⟨(w.heap.size + 1), 0, none⟩ (.string (rK r))).setCell ⟨(w.heap.size + 1), 1, none⟩ (.string (rV r)) := ⟨_, rfl⟩
   rw [<- hWE]
   have hxE : Blk WE (w.heap.size + 1) 68 #[.string (rK r), .string (rV r)] := by rw [hWE]; exact (HX2.out.set_ 0 _).set_ 1 _
   have hoe : Only (fun y => y = (w.heap.size + 1)) w2 WE := by rw [hWE]; exact (Only.set1 _ _ _ _).set2 _ _
   have hbw := HB0.out
   have hs2 := HX2.out.lt
   have hwe : Below w.heap.size w2 WE := hoe.to_below (by omega) (fun y e => by omega)
   have r0 := zab hxE 0 rfl
   have r1 := zab hxE 1 rfl
   refine bodyPost_ret (v := .tuple #[.agg #[.string (rK r), .string (rV r)], .bool r.isSome, .nilIface]) (by simp [results, Tryz.results46, go_sem, r0, r1]) rfl ?_
   exact .inr (.inr ⟨M0.out, (by simpa using M1.out), rfl, Blk.only MC.out hoe (by have := HCL.out; omega), ((Only.of_below hbw).trans MO.out).trans' hoe (fun y hy e => by subst e; omega)⟩)
end Go.Proofs.YtemondlgcmpbbaaGreatDoor
