/- To Rf Bg Ma Se: merged. -/
import Derived.Test.YtemondlgcmpbbaaGreatDoorMX06
import Derived.Test.YtemondlgcmpbbaaGreatDoorMX07
import Derived.Deep.DeepCutAuto
import Derived.Deep.RegionHeld3
namespace Go.Proofs.YtemondlgcmpbbaaGreatDoor
open Go.RowKit
set_option maxRecDepth 100000
theorem zcq (w : World) : Calls Tryz.prog 30 #[.nilIface] w fun e w' => e = .returned (.int .i64 0) /\ w = w' := by
 go_enter Tryz.func30, Tryz.ntmps30
 go_wp2
 go_ret
 exact ⟨rfl, rfl⟩
theorem zqj (f e : Nat) (s : ByteArray) (tb : Nat) (z : Int) (w : World) (hF : zao w f s e) (hg : Glob w) (ht : Blk w tb 44 #[.int .i64 z]) :
   Calls Tryz.prog 63 #[zag f, .iface 108 (.pointer (some ⟨tb, 0, none⟩))] w fun ev w' => ev = .returned (.bool true) /\ Blk w' tb 44 #[.int .i64 e] /\ Only (· = tb) w w' := by
 refine (zr9 f e s tb z w hF hg ht).mono ?_
 rintro ev w' ⟨rfl, w0, hb, rfl⟩
 exact ⟨rfl, (ht.below hb ht.lt).set_ 0 (.int .i64 e), Only.setCell (fp := (· = tb)) (p := ⟨tb, 0, none⟩) (Only.of_below hb) (.inl rfl) _⟩
theorem zbl (f n : Nat) (s : ByteArray) (w : World) (hF : zao w f s n) (hg : Glob w) : Calls Tryz.prog 30 #[zag f] w fun e w' => e = .returned (.int .i64 n) /\ Below w.heap.size w w' := by
 have hbel : Below w.heap.size w (w.alloc (.cells #[.int .i64 0] 44)) := (Below.refl _ _).alloc (Nat.le_refl _) _
 have HA := zaa (zqj f n s w.heap.size 0 (w.alloc (.cells #[.int .i64 0] 44)) (hF.below hbel hF.lt) (hg.alloc _) (Blk.new _ _ _))
 unfold zag at HA
 clear hF hg
 unfold zag
 go_enter Tryz.func30, Tryz.ntmps30
 go_wp2_with (go_at_call 63; refine HA.out.mono ?_; rintro e w' ⟨rfl, hb, ho⟩; have hc := zab hb 0 rfl)
 go_ret
 exact ⟨rfl, hbel.trans (ho.to_below (by simp) fun x hx => by omega)⟩
theorem zb6 (s : ByteArray) (n : Int) (w : World) : Calls Tryz.prog 53 #[.string s, .int .i64 n] w fun e w' => e = .returned (zag w.heap.size) /\ w' = w.alloc (.cells #[.string s, .iface 44 (.int .i64 n)] 130) := by
 go_enter Tryz.func53, Tryz.ntmps53
 go_wp2
 go_ret
 exact ⟨rfl, rfl⟩
def zjx : ByteArray := ⟨#[102, 111, 114, 109, 97, 116]⟩
def zbp (n : Nat) : Bool := decide (8 <= n) && decide (n <= 400)
theorem zel (n : Nat) : zbp n = true ↔ 8 <= n /\ n <= 400 := by simp [zbp]
def dev (b : Nat) : Value := .iface 23 (.pointer (some ⟨b, 0, none⟩))
section
variable (K b g base n : Nat) (cv : Value) (m : Nums) (bytes : List UInt8) (cache : List (Nat × List UInt8)) (w : World)
theorem znb (h : Dk w K b g base n cv m bytes cache) (hf : zbp n = false) :
   Calls Tryz.prog 50 #[.pointer (some ⟨b, 0, none⟩)] w fun e w' => e = .returned (zag w.heap.size) /\ w' = w.alloc (.cells #[.string zjx, .iface 44 (.int .i64 10)] 130) := by
 have HF := zaa (zfe b n (zcg bytes) (some ⟨g, 0, none⟩) cv m w h.at_ h.fits)
 unfold zbp at hf
 rw [hf] at HF
 clear h hf
 go_enter Tryz.func50, Tryz.ntmps50
 go_wp2_with (first
  | (go_at_call 77; go_in)
  | (go_at_call 103; refine HF.out.mono ?_; rintro e w' ⟨rfl, rfl⟩)
  | (go_at_call 53; refine (zb6 _ _ _).mono ?_; rintro e w' ⟨rfl, rfl⟩))
 go_ret
 exact ⟨rfl, rfl⟩
theorem znc (h : Dk w K b g base n cv m bytes cache) (hc : m.calm) (hK : K + 5 < zc8) (hf : zbp n = true) :
   Calls Tryz.prog 50 #[.pointer (some ⟨b, 0, none⟩)] w fun e w' => e = .returned .nilIface /\ Dk w' (K + 5) b g base n (.slice none 0 0) (zbo m 2).tick.wrote.tick (zeb bytes cache (zau (zay (zal bytes cache)))) [] /\ Only (fun x => x = b \/ x = g) w w' := by
 have hn := (zel n).1 hf
 have HF := zaa (zfe b n (zcg bytes) (some ⟨g, 0, none⟩) cv m w h.at_ h.fits)
 have HD := zaa (zm5 K b g base n cv m bytes cache w h hc hn.1 hK)
 unfold zbp at hf
 rw [hf] at HF
 clear h hf hc
 go_enter Tryz.func50, Tryz.ntmps50
 go_wp2_with (first
  | (go_at_call 77; go_in)
  | (go_at_call 103; refine HF.out.mono ?_; rintro e w' ⟨rfl, rfl⟩)
  | (go_at_call 109; refine HD.out.mono ?_; rintro e w' ⟨rfl, hd, ho⟩))
 go_ret
 exact ⟨rfl, hd, ho⟩
theorem zqk (h : Dk w K b g base n cv m bytes cache) (hf : zbp n = false) :
   Calls Tryz.prog 38 #[.pointer (some ⟨b, 0, none⟩)] w fun e w' => e = .returned (.tuple #[.pointer none, zag w.heap.size]) /\ w' = w.alloc (.cells #[.string zdh, .iface 44 (.int .i64 10)] 130) := by
 have HF := zaa (zfe b n (zcg bytes) (some ⟨g, 0, none⟩) cv m w h.at_ h.fits)
 unfold zbp at hf
 rw [hf] at HF
 clear h hf
 go_enter Tryz.func38, Tryz.ntmps38
 go_wp2_with (first
  | (go_at_call 65; go_in)
  | (go_at_call 103; refine HF.out.mono ?_; rintro e w' ⟨rfl, rfl⟩)
  | (go_at_call 53; refine (zb6 _ _ _).mono ?_; rintro e w' ⟨rfl, rfl⟩))
 go_ret2
 exact ⟨rfl, rfl⟩
theorem zoz (h : Dk w K b g base n cv m bytes cache) (hc : m.calm) (hK : K + 5 < zc8) (hf : zbp n = true) (hh : zay (zal bytes cache) = []) :
   Calls Tryz.prog 38 #[.pointer (some ⟨b, 0, none⟩)] w fun e w' => ∃ f, e = .returned (.tuple #[.pointer none, zag f]) /\ zao w' f zdh 9 /\ w.heap.size <= f /\ Dk w' (K + 2) b g base n cv (zbo m 2) bytes cache /\ Only (fun x => x = b) w w' := by
 have hn := (zel n).1 hf
 have HF := zaa (zfe b n (zcg bytes) (some ⟨g, 0, none⟩) cv m w h.at_ h.fits)
 have HD := zaa (zos K b g base n cv m bytes cache w h hc hn.1 hK hh)
 have HBL := zaa h.at_.lt
 unfold zbp at hf
 rw [hf] at HF
 unfold zag at HD
 clear h hf hc hh
 go_enter Tryz.func38, Tryz.ntmps38
 go_wp2_with (first
  | (go_at_call 65; go_in)
  | (go_at_call 103; refine HF.out.mono ?_; rintro e w' ⟨rfl, rfl⟩)
  | (go_at_call 104; refine HD.out.mono ?_; rintro e w' ⟨f, rfl, hfa, hz, hd, ho⟩))
 go_ret2
 have hbl := HBL.out
 have hbel : Below w'.heap.size w' (w'.alloc (.cells #[.pointer none, .int .i64 0] 88)) := (Below.refl _ _).alloc (Nat.le_refl _) _
 exact ⟨f, rfl, hfa.below hbel hfa.lt, hz, hd.below hbel, ho.below hbel⟩
end
structure DbS where
 dk : Nat
 root : Value
 keys : Int
 writer : Value
 rd : Nat
 poi : Bool
def DbAt (w : World) (x : Nat) (s : DbS) : Prop := Blk w x 91 #[.int .i32 0, .int .u32 0, .pointer (some ⟨s.dk, 0, none⟩), s.root, .int .i64 s.keys, s.writer, .map (some s.rd), .bool s.poi]
def DbS.fresh (dk rd : Nat) : DbS := ⟨dk, .pointer none, 0, .pointer none, rd, false⟩
theorem zo0 (K b g base n : Nat) (cv : Value) (m : Nums) (bytes : List UInt8) (cache : List (Nat × List UInt8)) (w : World) (h : Dk w K b g base n cv m bytes cache) (hc : m.calm) (hK : K + 5 < zc8) (hf : zbp n = true) (hd : Hd) (tl : List Hd) (hh : zay (zal bytes cache) = hd :: tl) (hz0 : hd.blk = 0) :
   Calls Tryz.prog 38 #[.pointer (some ⟨b, 0, none⟩)] w fun e w' => ∃ x dk rd, e = .returned (.tuple #[.pointer (some ⟨x, 0, none⟩), .nilIface]) /\ DbAt w' x (DbS.fresh dk rd) /\ RdAt w' rd [] /\ Blk w' dk 151 (#[dev b] ++ hd.cells) /\ w.heap.size <= x /\ w.heap.size <= dk /\ w.heap.size <= rd /\
    Dk w' (K + 3) b g base n (.slice none 0 0) (zbo m 3) (zcf bytes cache) [] /\ Only (fun x => x = b \/ x = g) w w' := by
 have hmm := @run_makeMap Tryz.prog
 have hn := (zel n).1 hf
 have HF := zaa (zfe b n (zcg bytes) (some ⟨g, 0, none⟩) cv m w h.at_ h.fits)
 have HD := zaa (zot K b g base n m bytes cache cv w h hc hn.1 hK hd tl hh hz0)
 unfold zbp at hf
 rw [hf] at HF
 clear h hf hc hh hz0
 go_enter Tryz.func38, Tryz.ntmps38
 go_wp2_with (first
  | (go_at_call 65; go_in)
  | (go_at_call 103; refine HF.out.mono ?_; rintro e w' ⟨rfl, rfl⟩)
  | (go_at_call 104; refine HD.out.mono ?_; rintro e w' ⟨f, rfl, hb, hz, hd', ho⟩; have HB := zaa hb; have HD' := zaa hd'; have HO := zaa ho; clear hb hd' ho))
 go_ret2
 have hbel : Below w'.heap.size w' (((w'.alloc (.cells #[.pointer none, .int .i64 0] 88)).alloc (.map #[] 0)).alloc (.cells #[.int .i32 0, .int .u32 0, .pointer (some ⟨f, 0, none⟩), .pointer none, .int .i64 0, .pointer none, .map (some (w'.heap.size + 1)), .bool false] 91)) := (((Below.refl _ _).alloc (Nat.le_refl _) _).alloc (by simp) _).alloc (by simp; omega) _
 have hzz := HO.out.size
 have hblk : DbAt (((w'.alloc (.cells #[.pointer none, .int .i64 0] 88)).alloc (.map #[] 0)).alloc (.cells #[.int .i32 0, .int .u32 0, .pointer (some ⟨f, 0, none⟩), .pointer none, .int .i64 0, .pointer none, .map (some (w'.heap.size + 1)), .bool false] 91)) (w'.heap.size + 1 + 1) (DbS.fresh f (w'.heap.size + 1)) := by
  have := Blk.new ((w'.alloc (.cells #[.pointer none, .int .i64 0] 88)).alloc (.map #[] 0)) 91 #[.int .i32 0, .int .u32 0, .pointer (some ⟨f, 0, none⟩), .pointer none, .int .i64 0, .pointer none, .map (some (w'.heap.size + 1)), .bool false]
  unfold DbAt DbS.fresh
  simpa using this
 have hrd : RdAt ((w'.alloc (.cells #[.pointer none, .int .i64 0] 88)).alloc (.map #[] 0)) (w'.heap.size + 1) [] := by
  have := RdAt.new (w'.alloc (.cells #[.pointer none, .int .i64 0] 88))
  simpa using this
 refine ⟨w'.heap.size + 1 + 1, f, w'.heap.size + 1, rfl, hblk, hrd.only ((Only.refl (fun _ => False) _).alloc _) id, HB.out.below hbel HB.out.lt, by omega, hz, by omega, HD'.out.below hbel, HO.out.below hbel⟩
def zcr : Value := .slice none 0 0
def MapsAt (w : World) (v : Value) (k : Nat) : Prop := w.ownsRow 0 241 1 v k (List.replicate k zcr)
theorem MapsAt.only {fp : Nat -> Prop} {w w' : World} {v : Value} {k : Nat} (h : MapsAt w v k) (ho : Only fp w w') (hf : ∀ x cs, Blk w x 241 cs -> ¬ fp x) : MapsAt w' v k := zak h ho hf
theorem MapsAt.below {w w' : World} {v : Value} {k : Nat} (h : MapsAt w v k) (hb : Below w.heap.size w w') : MapsAt w' v k := zap h hb
theorem MapsAt.nil (w : World) : MapsAt w (.slice none 0 0) 0 := World.ownsRow_nil _ _ _ _
theorem MapsAt.form {w : World} {v : Value} {k : Nat} (h : MapsAt w v k) : ∃ A c, v = .slice A k c /\ Reads w w.heap.size 1 A k (List.replicate k zcr) := by
 obtain ⟨A, c, rfl, _⟩ := zad h
 exact ⟨A, c, rfl, Reads.of_own h⟩
theorem za2 {w w' : World} {base s n : Nat} {T : TypeId} {v : Value} {xs : List Value} {fp : Nat -> Prop} (h : w.ownsRow base T s v n xs) (ho : Only fp w w') (hf : ∀ g, v.ownBlock = some g -> ¬ fp g) : w'.ownsRow base T s v n xs := by
 refine ⟨h.1, ?_⟩
 rcases h.2 with h0 | ⟨g, cap, cur, hv, hb, hg, hr⟩
 . exact .inl h0
 . exact .inr ⟨g, cap, cur, hv, hb, ho.blk (t := T) hg (hf g (by rw [hv]; rfl)), hr⟩
theorem zsb : (Tryz.prog.info? 241).map (fun i => (i.zero, i.size, i.bytes)) = some (some (.agg #[.slice none 0 0]), 1, 24) := by kernel_rfl
theorem zge (n : Nat) : ∀ u ∈ List.replicate n zcr, u.oneCell' = true := fun u hu => by rw [List.eq_of_mem_replicate hu]; rfl
theorem zlm (k : Nat) : List.replicate k zcr ++ [zcr] = List.replicate (k + 1) zcr := by rw [List.replicate_succ']
theorem zem (n : Nat) (may were : Value) (emp wild bit : Bool) (w : World) :
   Calls Tryz.prog 180 #[.agg #[.int .i64 n, may, .bool emp, were, .bool wild, .bool bit]] w fun e w' => e = .returned (.bool (zbp n)) /\ Below w.heap.size w w' := by
 have hb : Below w.heap.size w (w.alloc (.cells #[.int .i64 n, may, .bool emp, were, .bool wild, .bool bit] 238)) := (Below.refl _ _).alloc (Nat.le_refl _) _
 by_cases h1 : 8 <= n
 . have q1 : (8 : Int) <= n := by omega
   by_cases h2 : n <= 400
   . have q2 : (n : Int) <= 400 := by omega
     go_enter Tryz.func180, Tryz.ntmps180
     go_wp2
     go_ret
     exact ⟨zeh (by simp [zbp, h1, h2]), hb⟩
   . have q2 : ¬ (n : Int) <= 400 := by omega
     go_enter Tryz.func180, Tryz.ntmps180
     go_wp2
     go_ret
     exact ⟨zeh (by simp [zbp, h2]), hb⟩
 . have q1 : ¬ (8 : Int) <= n := by omega
   go_enter Tryz.func180, Tryz.ntmps180
   go_wp2
   go_ret
   exact ⟨zeh (by simp [zbp, h1]), hb⟩
set_option maxHeartbeats 1000000 in
theorem zt7 (n kM kW : Nat) (may were : Value) (emp wild bit : Bool) (w : World) (hM : MapsAt w may kM) (hW : MapsAt w were kW) (hkM : kM <= 100000) (hkW : kW <= 100000) :
   Calls Tryz.prog 182 #[.agg #[.int .i64 n, may, .bool emp, were, .bool wild, .bool bit], .agg #[.slice none 0 0]] w fun e w' => ∃ may' were', e = .returned (.agg #[.int .i64 n, may', .bool emp, were', .bool wild, .bool bit]) /\ MapsAt w' may' (kM + 1) /\ MapsAt w' were' (kW + 1) /\ Below w.heap.size w w' := by
 obtain ⟨i0, hi0, hz0, hz1, hz2⟩ := info_parts zsb
 obtain ⟨AM, cM, rfl, hrM⟩ := hM.form
 obtain ⟨AW, cW, rfl, hrW⟩ := hW.form
 have HI0 := zaa hi0
 have HZ0 := zaa hz0
 have HZ1 := zaa hz1
 have HZ2 := zaa hz2
 clear hi0 hz0 hz1 hz2 hM hW
 have L1 : kM + 1 <= maxLen := by unfold maxLen; omega
 have L2 : kW + 1 <= maxLen := by unfold maxLen; omega
 go_enter Tryz.func182, Tryz.ntmps182
 go_wp2_with (first
  | (at_builtin
     refine zah _ rfl (.tmp 7) (.tmp 9) 236 rfl 0 241 i0 _ 1 24 Tryz.underlying236 HI0.out HZ0.out HZ1.out HZ2.out rfl (by decide) (.slice none 0 0) 0 [] rfl (World.ownsRow_nil _ _ _ _) w.heap.size AM kM cM (List.replicate kM zcr) rfl (((hrM.alloc (Nat.le_refl _) _).alloc (by simp) _).alloc (by simp; omega) _) (zge _) (by omega) (by omega) (Nat.zero_le _) ?_
     intro v1 w1 hown1 hgr1 hat1
     have hb0 : Below w.heap.size w (((w.alloc (.cells #[.int .i64 n, .slice AM kM cM, .bool emp, .slice AW kW cW, .bool wild, .bool bit] 238)).alloc (.cells #[.slice none 0 0] 241)).alloc (.cells #[.int .i64 0, .slice none 0 0, .bool false, .slice none 0 0, .bool false, .bool false] 238)) := (((Below.refl _ _).alloc (Nat.le_refl _) _).alloc (by simp) _).alloc (by simp; omega) _
     have hb1 : Below w.heap.size w w1 := hb0.grown hgr1 (by simp; omega) (fun g e => by cases e)
     have hd1 : Blk w1 w.heap.size 238 #[.int .i64 n, .slice AM kM cM, .bool emp, .slice AW kW cW, .bool wild, .bool bit] := (((Blk.new w _ _).alloc _).alloc _).grown hgr1 (by simp [Value.ownBlock])
     have hm1 : Blk w1 (w.heap.size + 1) 241 #[.slice none 0 0] := ((Blk.new2 w _ _ _).alloc _).grown hgr1 (by simp [Value.ownBlock])
     have hr1 : Blk w1 (w.heap.size + 1 + 1) 238 #[.int .i64 0, .slice none 0 0, .bool false, .slice none 0 0, .bool false, .bool false] := by
      have := Blk.new2 (w.alloc (.cells #[.int .i64 n, .slice AM kM cM, .bool emp, .slice AW kW cW, .bool wild, .bool bit] 238)) (.cells #[.slice none 0 0] 241) 238 #[.int .i64 0, .slice none 0 0, .bool false, .slice none 0 0, .bool false, .bool false]
      rw [World.size_alloc] at this
      exact this.grown hgr1 (by simp [Value.ownBlock])
     rw [Nat.zero_add, List.nil_append] at hown1
     have hv1 : ∀ g, v1.ownBlock = some g -> w.heap.size + 1 + 1 + 1 <= g := fun g e => by
      rcases hat1 with h | h
      . rw [h] at e; cases e
      . rw [h] at e; injection e with e; simp only [World.size_alloc] at e; omega
     obtain ⟨A1, c1, rfl, _⟩ := zad hown1
     have m1 := zab hm1 0 rfl
     have HB1 := zaa hb1
     have HD1 := zaa hd1
     have HM1 := zaa hm1
     have HR1 := zaa hr1
     have HOWN1 := zaa hown1
     have HV1 := zaa hv1
     clear hown1 hgr1 hat1 hb0 hb1 hd1 hm1 hr1 hv1)
  | (at_builtin
     refine zah _ rfl (.tmp 11) (.tmp 13) 236 rfl 0 241 i0 _ 1 24 Tryz.underlying236 HI0.out HZ0.out HZ1.out HZ2.out rfl (by decide) (.slice A1 kM c1) kM _ rfl (HOWN1.out.alloc _) (w1.heap.size + 1) (some ⟨w1.heap.size, 0, none⟩) 1 1 [zcr] rfl ⟨rfl, fun _ => ⟨_, rfl, Nat.lt_succ_self _, fun j u hu => by rw [Addr.add_lit]; exact (Blk.new w1 241 #[zcr]).range (cur := [zcr]) (o := 0) rfl j u hu⟩⟩ (zge 1) (by omega) (by omega) (Nat.zero_le _) ?_
     intro v2 w2 hown2 hgr2 hat2
     rw [zlm] at hown2
     have hz1 : w.heap.size + 1 + 1 < w1.heap.size := HR1.out.lt
     have hV : ∀ x, x < w.heap.size + 1 + 1 + 1 -> some x ≠ (Value.slice A1 kM c1).ownBlock := fun x hx e => by have := HV1.out x e.symm; omega
     have hb2 : Below w.heap.size w w2 := (HB1.out.alloc (by omega) _).grown hgr2 (by simp only [World.size_alloc]; omega) (fun g e => by have := HV1.out g e; omega)
     have hd2 : Blk w2 w.heap.size 238 _ := (HD1.out.alloc _).grown hgr2 (hV _ (by omega))
     have hm2 := (HM1.out.alloc (.cells #[zcr] 241)).grown hgr2 (hV _ (by omega))
     have hr2 := (HR1.out.alloc (.cells #[zcr] 241)).grown hgr2 (hV _ (by omega))
     obtain ⟨A2, c2, rfl, _⟩ := zad hown2
     have q1 := zab hd2 1 rfl
     have z1 : w2.frozen? ⟨w.heap.size, 1, none⟩ = false := hd2.frozen 1
     have q3 := zab hd2 3 rfl
     obtain ⟨W3, hW3⟩ : ∃ W3, W3 = w2.setCell ⟨w.heap.size, 1, none⟩ (.slice A2 (kM + 1) c2) := ⟨_, rfl⟩
     have ho3 : Only (· = w.heap.size) w2 W3 := by rw [hW3]; exact Only.set1 _ _ _ _
     have HB3 := zaa (show Below w.heap.size w W3 from hb2.trans (ho3.to_below hb2.size (fun x hx => by omega)))
     have HD3 := zaa (show Blk W3 w.heap.size 238 #[.int .i64 n, .slice A2 (kM + 1) c2, .bool emp, .slice AW kW cW, .bool wild, .bool bit] by rw [hW3]; exact hd2.set_ 1 _)
     have HM3 := zaa (Blk.only hm2 ho3 (show ¬ w.heap.size + 1 = w.heap.size by omega))
     have HR3 := zaa (Blk.only hr2 ho3 (show ¬ w.heap.size + 1 + 1 = w.heap.size by omega))
     have HOWN3 := zaa (zak hown2 ho3 (fun x cs hx e => by subst e; exact Blk.ne_ hx hd2 (by decide) rfl))
     have HW3 := zaa hW3
     have HRW := zaa (hrW.below (HB3.out))
     clear hown2 hgr2 hat2 hb2 hd2 hm2 hr2 ho3 hV)
  | (at_builtin
     rw [<- HW3.out]
     refine zah _ rfl (.tmp 16) (.tmp 18) 236 rfl 0 241 i0 _ 1 24 Tryz.underlying236 HI0.out HZ0.out HZ1.out HZ2.out rfl (by decide) (.slice none 0 0) 0 [] rfl (World.ownsRow_nil _ _ _ _) w.heap.size AW kW cW (List.replicate kW zcr) rfl HRW.out (zge _) (by omega) (by omega) (Nat.zero_le _) ?_
     intro v4 w4 hown4 hgr4 hat4
     rw [Nat.zero_add, List.nil_append] at hown4
     have hz3 : w.heap.size + 1 + 1 < W3.heap.size := HR3.out.lt
     have hv4 : ∀ g, v4.ownBlock = some g -> W3.heap.size <= g := fun g e => by
      rcases hat4 with h | h
      . rw [h] at e; cases e
      . rw [h] at e; injection e with e; omega
     obtain ⟨A4, c4, rfl, _⟩ := zad hown4
     have hV0 : ∀ x : Nat, some x ≠ (Value.slice none 0 0).ownBlock := fun x e => by cases e
     have HB4 := zaa (HB3.out.grown hgr4 (by omega) (fun g e => by cases e))
     have HD4 := zaa (HD3.out.grown hgr4 (hV0 _))
     have HM4 := zaa (HM3.out.grown hgr4 (hV0 _))
     have HR4 := zaa (HR3.out.grown hgr4 (hV0 _))
     have HOWM4 := zaa (zak HOWN3.out (Only.grown (fp := fun _ => False) (Only.refl _ _) hgr4 (fun g e => by cases e)) (fun _ _ _ k => k))
     have HOWN4 := zaa hown4
     have HV4 := zaa hv4
     have m4 := zab HM4.out 0 rfl
     clear hown4 hgr4 hat4 hv4 hV0 q1 z1 q3 m1)
  | (at_builtin
     refine zah _ rfl (.tmp 20) (.tmp 22) 236 rfl 0 241 i0 _ 1 24 Tryz.underlying236 HI0.out HZ0.out HZ1.out HZ2.out rfl (by decide) (.slice A4 kW c4) kW _ rfl (HOWN4.out.alloc _) (w4.heap.size + 1) (some ⟨w4.heap.size, 0, none⟩) 1 1 [zcr] rfl ⟨rfl, fun _ => ⟨_, rfl, Nat.lt_succ_self _, fun j u hu => by rw [Addr.add_lit]; exact (Blk.new w4 241 #[zcr]).range (cur := [zcr]) (o := 0) rfl j u hu⟩⟩ (zge 1) (by omega) (by omega) (Nat.zero_le _) ?_
     intro v5 w5 hown5 hgr5 hat5
     rw [zlm] at hown5
     have hz4 : w.heap.size + 1 + 1 < w4.heap.size := HR4.out.lt
     have hV : ∀ x, x < w.heap.size + 1 + 1 + 1 -> some x ≠ (Value.slice A4 kW c4).ownBlock := fun x hx e => by have := HV4.out x e.symm; omega
     have hb5 : Below w.heap.size w w5 := (HB4.out.alloc (by omega) _).grown hgr5 (by simp only [World.size_alloc]; omega) (fun g e => by have := HV4.out g e; omega)
     have hd5 : Blk w5 w.heap.size 238 _ := (HD4.out.alloc _).grown hgr5 (hV _ (by omega))
     have hr5 := (HR4.out.alloc (.cells #[zcr] 241)).grown hgr5 (hV _ (by omega))
     have HOWM5 := zaa (za2 (HOWM4.out.alloc (.cells #[zcr] 241)) (Only.grown (fp := fun x => W3.heap.size <= x) (Only.refl _ _) hgr5 (fun g e => .inl (HV4.out g e))) (fun g e => by have := (zaz HOWN3.out e).2; omega))
     obtain ⟨A5, c5, rfl, _⟩ := zad hown5
     have q0 := zab hd5 0 rfl
     have q1 := zab hd5 1 rfl
     have q2 := zab hd5 2 rfl
     have q3 := zab hd5 3 rfl
     have q4 := zab hd5 4 rfl
     have q5 := zab hd5 5 rfl
     have z3 : w5.frozen? ⟨w.heap.size, 3, none⟩ = false := hd5.frozen 3
     have p0 := zab hr5 0 rfl
     have p1 := zab hr5 1 rfl
     have p2 := zab hr5 2 rfl
     have p3 := zab hr5 3 rfl
     have p4 := zab hr5 4 rfl
     have p5 := zab hr5 5 rfl
     have y : ∀ i, w5.frozen? ⟨w.heap.size + 1 + 1, i, none⟩ = false := fun i => hr5.frozen i
     have y0 := y 0
     have y1 := y 1
     have y2 := y 2
     have y3 := y 3
     have y4 := y 4
     have y5 := y 5
     have HB5 := zaa hb5
     have HD5 := zaa hd5
     have HR5 := zaa hr5
     have HOWN5 := zaa hown5
     have HGR5 := zaa hgr5
     have HAT5 := zaa hat5
     clear hown5 hgr5 hat5 hb5 hd5 hr5 hV y m4))
 have hx5 : w.heap.size + 1 + 1 < w5.heap.size := HR5.out.lt
 obtain ⟨W6, hW6⟩ : ∃ W6, W6 = w5.setCell ⟨w.heap.size, 3, none⟩ (.slice A5 (kW + 1) c5) := ⟨_, rfl⟩
 rw [<- hW6]
 have ho6 : Only (· = w.heap.size) w5 W6 := by rw [hW6]; exact Only.set1 _ _ _ _
 have hr6 := Blk.only HR5.out ho6 (show ¬ w.heap.size + 1 + 1 = w.heap.size by omega)
 have hd6 : Blk W6 w.heap.size 238 #[.int .i64 n, .slice A2 (kM + 1) c2, .bool emp, .slice A5 (kW + 1) c5, .bool wild, .bool bit] := by rw [hW6]; exact HD5.out.set_ 3 _
 obtain ⟨W7, hW7⟩ : ∃ W7, W7 = (((((W6.setCell ⟨w.heap.size + 1 + 1, 0, none⟩ (.int .i64 n)).setCell ⟨w.heap.size + 1 + 1, 1, none⟩ (.slice A2 (kM + 1) c2)).setCell ⟨w.heap.size + 1 + 1, 2, none⟩ (.bool emp)).setCell ⟨w.heap.size + 1 + 1, 3, none⟩ (.slice A5 (kW + 1) c5)).setCell ⟨w.heap.size + 1 + 1, 4, none⟩ (.bool wild)).setCell ⟨w.heap.size + 1 + 1, 5, none⟩ (.bool bit) := ⟨_, rfl⟩
 rw [<- hW7]
 have ho7 : Only (· = w.heap.size + 1 + 1) W6 W7 := by rw [hW7]; exact (((((Only.set1 _ _ _ _).set2 _ _).set2 _ _).set2 _ _).set2 _ _).set2 _ _
 have hr7 : Blk W7 (w.heap.size + 1 + 1) 238 #[.int .i64 n, .slice A2 (kM + 1) c2, .bool emp, .slice A5 (kW + 1) c5, .bool wild, .bool bit] := by
  rw [hW7]
  exact (((((hr6.set_ 0 _).set_ 1 _).set_ 2 _).set_ 3 _).set_ 4 _).set_ 5 _
 have r0 := zab hr7 0 rfl
 have r1 := zab hr7 1 rfl
 have r2 := zab hr7 2 rfl
 have r3 := zab hr7 3 rfl
 have r4 := zab hr7 4 rfl
 have r5 := zab hr7 5 rfl
 refine bodyPost_ret (v := .agg #[.int .i64 n, .slice A2 (kM + 1) c2, .bool emp, .slice A5 (kW + 1) c5, .bool wild, .bool bit]) (by simp [results, Tryz.results182, go_sem, r0, r1, r2, r3, r4, r5]) rfl ⟨.slice A2 (kM + 1) c2, .slice A5 (kW + 1) c5, rfl, ?_, ?_, ?_⟩
 . exact zak (zak HOWM5.out ho6 (fun x cs hx e => by subst e; exact Blk.ne_ hx HD5.out (by decide) rfl)) ho7 (fun x cs hx e => by subst e; exact Blk.ne_ hx hr6 (by decide) rfl)
 . exact zak (zak HOWN5.out ho6 (fun x cs hx e => by subst e; exact Blk.ne_ hx HD5.out (by decide) rfl)) ho7 (fun x cs hx e => by subst e; exact Blk.ne_ hx hr6 (by decide) rfl)
 . exact (HB5.out.trans (ho6.to_below HB5.out.size (fun x hx => by omega))).trans (ho7.to_below (Nat.le_trans HB5.out.size ho6.size) (fun x hx => by omega))
set_option maxHeartbeats 1000000 in
theorem zln (n kM kW : Nat) (may were : Value) (emp wild bit : Bool) (w : World) (hM : MapsAt w may kM) (hW : MapsAt w were kW) (hkM : kM <= 100000) (hkW : kW <= 100000) :
   Calls Tryz.prog 181 #[.agg #[.int .i64 n, may, .bool emp, were, .bool wild, .bool bit], .agg #[.slice none 0 0]] w fun e w' => ∃ may' were', e = .returned (.agg #[.int .i64 n, may', .bool false, were', .bool wild, .bool bit]) /\ MapsAt w' may' 1 /\ MapsAt w' were' (kW + 1) /\ Below w.heap.size w w' := by
 have hb0 : Below w.heap.size w (((w.alloc (.cells #[.int .i64 n, may, .bool emp, were, .bool wild, .bool bit] 238)).alloc (.cells #[.slice none 0 0] 241)).alloc (.cells #[.int .i64 0, .slice none 0 0, .bool false, .slice none 0 0, .bool false, .bool false] 238)) := (((Below.refl _ _).alloc (Nat.le_refl _) _).alloc (by simp) _).alloc (by simp; omega) _
 obtain ⟨AM, cM, rfl, hrM⟩ := hM.form
 obtain ⟨AW, cW, rfl, hrW⟩ := hW.form
 have HT := zaa (zt7 n kM kW _ _ emp wild bit _ (hM.below hb0) (hW.below hb0) hkM hkW)
 go_enter Tryz.func181, Tryz.ntmps181
 go_upto_region 4 with (first
  | (go_at_call 182; refine HT.out.mono ?_; rintro e w1 ⟨may', were', rfl, hM1, hW1, hb1⟩
     obtain ⟨A1, c1, rfl, _⟩ := hM1.form
     obtain ⟨A2, c2, rfl, _⟩ := hW1.form
     have m1 : w1.cell? ⟨w.heap.size + 1, 0, none⟩ = some (.slice none 0 0) := za4 (zab ((Blk.new2 w (.cells #[.int .i64 n, .slice AM kM cM, .bool emp, .slice AW kW cW, .bool wild, .bool bit] 238) 241 #[.slice none 0 0]).alloc _) 0 rfl) hb1
     have m1' := fun o => zaj o m1))
 obtain ⟨W2, hW2⟩ : ∃ W2, W2 = (w1.alloc (.cells #[.int .i64 n, .slice (some ⟨w1.heap.size + 1, 0, none⟩) 1 1, .bool false, .slice A2 (kW + 1) c2, .bool wild, .bool bit] 238)).alloc (.cells #[.slice none 0 0] 241) := ⟨_, rfl⟩
 rw [<- hW2]
 have hr0 : Blk (((w.alloc (.cells #[.int .i64 n, .slice AM kM cM, .bool emp, .slice AW kW cW, .bool wild, .bool bit] 238)).alloc (.cells #[.slice none 0 0] 241)).alloc (.cells #[.int .i64 0, .slice none 0 0, .bool false, .slice none 0 0, .bool false, .bool false] 238)) (w.heap.size + 1 + 1) 238 #[.int .i64 0, .slice none 0 0, .bool false, .slice none 0 0, .bool false, .bool false] := by
  have := Blk.new2 (w.alloc (.cells #[.int .i64 n, .slice AM kM cM, .bool emp, .slice AW kW cW, .bool wild, .bool bit] 238)) (.cells #[.slice none 0 0] 241) 238 #[.int .i64 0, .slice none 0 0, .bool false, .slice none 0 0, .bool false, .bool false]
  rwa [World.size_alloc] at this
 have hb2 : Below w1.heap.size w1 W2 := by rw [hW2]; exact ((Below.refl _ _).alloc (Nat.le_refl _) _).alloc (by simp) _
 have hr1 := hr0.below hb1 hr0.lt
 have hr2 := hr1.below hb2 hr1.lt
 have hx1 : w.heap.size + 1 + 1 < w1.heap.size := hr1.lt
 have hd2 : Blk W2 w1.heap.size 238 #[.int .i64 n, .slice (some ⟨w1.heap.size + 1, 0, none⟩) 1 1, .bool false, .slice A2 (kW + 1) c2, .bool wild, .bool bit] := by rw [hW2]; exact (Blk.new w1 _ _).alloc _
 have hrow : Blk W2 (w1.heap.size + 1) 241 #[zcr] := by rw [hW2]; exact Blk.new2 w1 _ _ _
 have hM2 : MapsAt W2 (.slice (some ⟨w1.heap.size + 1, 0, none⟩) 1 1) 1 := ⟨rfl, .inr ⟨_, 1, _, rfl, Nat.zero_le _, hrow, Nat.le_refl _, by unfold maxLen; omega, rfl, rfl⟩⟩
 have hW2' := hW1.below hb2
 have HW2 := zaa hW2
 clear hW2 hr0 hr1 hM hW hrM hrW m1 m1' HT
 have q0 := zab hd2 0 rfl
 have q1 := zab hd2 1 rfl
 have q2 := zab hd2 2 rfl
 have q3 := zab hd2 3 rfl
 have q4 := zab hd2 4 rfl
 have q5 := zab hd2 5 rfl
 have p0 := zab hr2 0 rfl
 have p1 := zab hr2 1 rfl
 have p2 := zab hr2 2 rfl
 have p3 := zab hr2 3 rfl
 have p4 := zab hr2 4 rfl
 have p5 := zab hr2 5 rfl
 have y : ∀ i, W2.frozen? ⟨w.heap.size + 1 + 1, i, none⟩ = false := fun i => hr2.frozen i
 have y0 := y 0
 have y1 := y 1
 have y2 := y 2
 have y3 := y 3
 have y4 := y 4
 have y5 := y 5
 have HD2 := zaa hd2
 have HR2 := zaa hr2
 have HM2 := zaa hM2
 have HWW := zaa hW2'
 have HB1 := zaa hb1
 have HB2 := zaa hb2
 have HB0 := zaa hb0
 clear hd2 hr2 hM2 hW2' hb1 hb2 hb0 y hrow hM1 hW1
 go_wp2
 obtain ⟨W7, hW7⟩ : ∃ W7, W7 = (((((W2.setCell ⟨w.heap.size + 1 + 1, 0, none⟩ (.int .i64 n)).setCell ⟨w.heap.size + 1 + 1, 1, none⟩ (.slice (some ⟨w1.heap.size + 1, 0, none⟩) 1 1)).setCell ⟨w.heap.size + 1 + 1, 2, none⟩ (.bool false)).setCell ⟨w.heap.size + 1 + 1, 3, none⟩ (.slice A2 (kW + 1) c2)).setCell ⟨w.heap.size + 1 + 1, 4, none⟩ (.bool wild)).setCell ⟨w.heap.size + 1 + 1, 5, none⟩ (.bool bit) := ⟨_, rfl⟩
 rw [<- hW7]
 have ho7 : Only (· = w.heap.size + 1 + 1) W2 W7 := by rw [hW7]; exact (((((Only.set1 _ _ _ _).set2 _ _).set2 _ _).set2 _ _).set2 _ _).set2 _ _
 have hr7 : Blk W7 (w.heap.size + 1 + 1) 238 #[.int .i64 n, .slice (some ⟨w1.heap.size + 1, 0, none⟩) 1 1, .bool false, .slice A2 (kW + 1) c2, .bool wild, .bool bit] := by
  rw [hW7]
  exact (((((HR2.out.set_ 0 _).set_ 1 _).set_ 2 _).set_ 3 _).set_ 4 _).set_ 5 _
 have r0 := zab hr7 0 rfl
 have r1 := zab hr7 1 rfl
 have r2 := zab hr7 2 rfl
 have r3 := zab hr7 3 rfl
 have r4 := zab hr7 4 rfl
 have r5 := zab hr7 5 rfl
 refine bodyPost_ret (v := .agg #[.int .i64 n, .slice (some ⟨w1.heap.size + 1, 0, none⟩) 1 1, .bool false, .slice A2 (kW + 1) c2, .bool wild, .bool bit]) (by simp [results, Tryz.results181, go_sem, r0, r1, r2, r3, r4, r5]) rfl ⟨.slice (some ⟨w1.heap.size + 1, 0, none⟩) 1 1, .slice A2 (kW + 1) c2, rfl, ?_, ?_, ?_⟩
 . exact HM2.out.only ho7 (fun x cs hx e => by subst e; exact Blk.ne_ hx HR2.out (by decide) rfl)
 . exact HWW.out.only ho7 (fun x cs hx e => by subst e; exact Blk.ne_ hx HR2.out (by decide) rfl)
 . have h1 : Below w.heap.size w W2 := (HB0.out.trans (HB1.out.mono (by simp; omega))).trans (HB2.out.mono (by omega))
   exact h1.trans (ho7.to_below h1.size (fun x hx => by omega))
theorem zce {x : Nat} {T : TypeId} {cs : Array Value} {w : World} (h : Blk w x T cs) (h0 : cs[0]? = some (.int .i32 0)) :
   Calls Tryz.prog 51 #[.pointer (some ⟨x, 0, none⟩)] w fun e w' => e = .returned (.tuple #[]) /\ Blk w' x T (cs.setIfInBounds 0 (.int .i32 1)) /\ Only (· = x) w w' /\ w'.heap.size = w.heap.size := by
 refine (MuLone.lock_free ztm ⟨x, 0, none⟩ w (by rw [h.cell]; exact h0) (h.frozen 0)).mono ?_
 rintro e w' ⟨rfl, rfl⟩
 exact ⟨rfl, h.set_ 0 _, Only.set1 _ _ _ _, by simp [World.setCell]⟩
theorem zbd {x : Nat} {T : TypeId} {cs : Array Value} {w : World} (u : FrameMode) (h : Blk w x T cs) (h0 : cs[0]? = some (.int .i32 1)) :
   CallsD Tryz.prog 52 #[.pointer (some ⟨x, 0, none⟩)] u w fun e u' w' => u' = u /\ (e = .returned (.tuple #[]) /\ Blk w' x T (cs.setIfInBounds 0 (.int .i32 0)) /\ Only (· = x) w w' /\ w'.heap.size = w.heap.size) := by
 refine (MuLone.unlock_deferred ztm ⟨x, 0, none⟩ u w (by rw [h.cell]; exact h0) (h.frozen 0)).mono ?_
 rintro e u' w' ⟨rfl, rfl, rfl⟩
 exact ⟨rfl, rfl, h.set_ 0 _, Only.set1 _ _ _ _, by simp [World.setCell]⟩
structure TxS where
 db : Nat
 root : Value
 keys : Int
 write : Bool
 done : Bool
 stamp : Int
def TxAt (w : World) (t : Nat) (s : TxS) : Prop := Blk w t 94 #[.pointer (some ⟨s.db, 0, none⟩), s.root, .int .i64 s.keys, .bool s.write, .bool s.done, .int .i64 s.stamp]
def zbw (s : DbS) (l : Int) : Array Value := #[.int .i32 l, .int .u32 0, .pointer (some ⟨s.dk, 0, none⟩), s.root, .int .i64 s.keys, s.writer, .map (some s.rd), .bool s.poi]
set_option maxHeartbeats 1000000 in
theorem zkb (x : Nat) (s : DbS) (ks : List Nat) (w : World) (h : DbAt w x s) (hp : s.poi = false) (hr : RdAt w s.rd ks) (hk : ∀ k ∈ ks, TxB w k) (h4 : ks.length < 4) :
   Calls Tryz.prog 22 #[.pointer (some ⟨x, 0, none⟩), .bool false] w fun e w' => ∃ t, e = .returned (.tuple #[.pointer (some ⟨t, 0, none⟩), .nilIface]) /\ TxAt w' t ⟨x, s.root, s.keys, false, false, 0⟩ /\ DbAt w' x s /\ RdAt w' s.rd (ks ++ [t]) /\ w.heap.size <= t /\ Only (fun y => y = x \/ y = s.rd) w w' := by
 obtain ⟨dk, root, keys, writer, rd, poi⟩ := s
 simp only at hp hr
 subst hp
 have hrx : rd ≠ x := hr.ne_blk h
 have HL := zaa (zce h rfl)
 have h4' : ¬ (ks.length : Int) = 4 := by omega
 have h4b : decide ((ks.length : Int) = 4) = false := by simpa using h4'
 have h4c : ((ks.length : Int) == 4) = false := by simpa using h4'
 have HR := zaa hr
 have HK := zaa hk
 have HXL := zaa h.lt
 have HKX := zaa (show ∀ k ∈ ks, k ≠ x from fun k hk' e => by obtain ⟨cs, hb⟩ := hk k hk'; subst e; exact Blk.ne_ hb h (by decide) rfl)
 have H4 := zaa h4
 clear h hr hk
 go_enter_defers Tryz.func22, Tryz.ntmps22
 go_wp2_with (go_at_call 51; refine HL.out.mono ?_; rintro e w1 ⟨rfl, hb1, ho1, hs1⟩
              have c2 : w1.cell? ⟨x, 3, none⟩ = some root := zab hb1 3 rfl
              have c3 : w1.cell? ⟨x, 4, none⟩ = some (.int .i64 keys) := zab hb1 4 rfl
              have c5 : w1.cell? ⟨x, 5, none⟩ = some writer := zab hb1 5 rfl
              have c6 : w1.cell? ⟨x, 6, none⟩ = some (.map (some rd)) := zab hb1 6 rfl
              have c6' := fun o => zaj o c6
              have c7 : w1.cell? ⟨x, 7, none⟩ = some (.bool false) := zab hb1 7 rfl
              have hr1 := HR.out.only ho1 hrx
              have hl := fun ty => zqi hr1 ty
              obtain ⟨W2, hW2⟩ : ∃ W2, W2 = w1.alloc (.cells #[.pointer (some ⟨x, 0, none⟩), root, .int .i64 keys, .bool false, .bool false, .int .i64 0] 94) := ⟨_, rfl⟩
              have hoA : Only (fun _ => False) w1 W2 := by rw [hW2]; exact (Only.refl _ _).alloc _
              have hT2 : TxAt W2 w1.heap.size ⟨x, root, keys, false, false, 0⟩ := by rw [hW2]; exact Blk.new _ _ _
              have hkl : ∀ k ∈ ks, k < w.heap.size := fun k hk => by obtain ⟨_, hb⟩ := HK.out k hk; exact hb.lt
              obtain ⟨w3, hrun, hr3, ho3, hs3⟩ := zu6 (w := W2) (x := w1.heap.size) (hr1.only hoA id) (fun k hk => by obtain ⟨cs, hb⟩ := HK.out k hk; exact ⟨cs, (hb.only ho1 (HKX.out k hk)).only hoA id⟩) ⟨_, hT2⟩ (fun hm => by have := hkl _ hm; omega) (.int .i64 1)
              unfold pk at hrun
              rw [hW2] at hrun
              have HB1 := zaa hb1
              have HO1 := zaa ho1
              have HS1 := zaa hs1
              have HOA := zaa hoA
              have HT2 := zaa hT2
              have HR3 := zaa hr3
              have HO3 := zaa ho3
              have HW2 := zaa hW2
              clear hb1 ho1 hs1 hr1 hoA hT2 hr3 ho3 hs3 hW2 hkl)
 have hxl := HXL.out
 have hz1 := HS1.out
 have hrl := HR.out.lt
 have hb3 : Blk w3 x 91 _ := (HB1.out.only HOA.out id).only HO3.out (fun e => hrx e.symm)
 have hT3 := HT2.out.only HO3.out (show ¬ w1.heap.size = rd by omega)
 refine leaves_cons (f := 52) (args := #[.pointer (some ⟨x, 0, none⟩)]) (by simp) (by simp [go_sem]) ?_
 refine (zbd .returning hb3 rfl).mono ?_
 rintro e u' w4 ⟨rfl, rfl, hb4, ho4, hs4⟩
 refine ⟨_, results_tmp2 rfl _ _ _, ?_⟩
 refine ⟨w1.heap.size, rfl, hT3.only ho4 (by omega), hb4, HR3.out.only ho4 hrx, by omega, ?_⟩
 exact Only.trans' (fp := fun y => y = x \/ y = rd) ((HO1.out.mono fun _ _ h => .inl h).trans (HOA.out.mono fun _ _ h => h.elim)) (HO3.out.mono (fq := fun y => y = x \/ y = rd) (fun _ _ h => .inr h) |>.trans (ho4.mono fun _ _ h => .inl h)) (fun y _ h => h)
def mayC (poi done change write : Bool) : Nat := if poi then 7 else if done then 5 else if change && !write then 6 else 0
def Ans (w w' : World) (v : Value) (op : ByteArray) (c : Nat) : Prop := Below w.heap.size w w' /\ ((c = 0 /\ v = .nilIface /\ w = w') \/ (c ≠ 0 /\ ∃ f, v = zag f /\ zao w' f op c /\ w.heap.size <= f))
theorem Ans.ok (w : World) (op : ByteArray) : Ans w w .nilIface op 0 := ⟨Below.refl _ _, .inl ⟨rfl, rfl, rfl⟩⟩
theorem Ans.fault (w : World) (op : ByteArray) (c : Nat) (h : c ≠ 0) : Ans w (w.alloc (.cells #[.string op, .iface 44 (.int .i64 c)] 130)) (zag w.heap.size) op c :=
 ⟨(Below.refl _ _).alloc (Nat.le_refl _) _, .inr ⟨h, _, rfl, Blk.new _ _ _, Nat.le_refl _⟩⟩
set_option maxHeartbeats 1000000 in
theorem zij (t x : Nat) (τ : TxS) (s : DbS) (l : Int) (op : ByteArray) (ch : Bool) (w : World) (hT : TxAt w t τ) (hD : Blk w x 91 (zbw s l)) (hx : τ.db = x) :
   Calls Tryz.prog 54 #[.pointer (some ⟨t, 0, none⟩), .string op, .bool ch, .slice none 0 0] w fun e w' => ∃ v, e = .returned v /\ Ans w w' v op (mayC s.poi τ.done ch τ.write) := by
 obtain ⟨db, root, keys, write, done, stamp⟩ := τ
 obtain ⟨dk, root', keys', writer, rd, poi⟩ := s
 subst hx
 have d7 : w.cell? ⟨db, 7, none⟩ = some (.bool poi) := zab hD 7 rfl
 have t0 : w.cell? ⟨t, 0, none⟩ = some (.pointer (some ⟨db, 0, none⟩)) := zab hT 0 rfl
 have t3 : w.cell? ⟨t, 3, none⟩ = some (.bool write) := zab hT 3 rfl
 have t4 : w.cell? ⟨t, 4, none⟩ = some (.bool done) := zab hT 4 rfl
 clear hT hD
 have hOK := Ans.ok w op
 have hF := fun c h => Ans.fault w op c h
 cases poi <;> cases done <;> cases ch <;> cases write <;>
 . simp only [mayC, Bool.and_true, Bool.and_false, Bool.not_true, Bool.not_false, if_true, if_false, Bool.false_eq_true, Bool.and_self]
   go_enter Tryz.func54, Tryz.ntmps54
   go_wp2_with (go_at_call 53; refine (zb6 _ _ _).mono ?_; rintro e w' ⟨rfl, rfl⟩)
   first
    | (go_ret; exact ⟨_, rfl, hF _ (by decide)⟩)
    | (refine wp_loop_rounds 1 ?_
       rw [rounds_succ]
       go_wp2
       go_ret
       exact ⟨_, rfl, hOK⟩)
def zbe (poi done change write : Bool) (k : ByteArray) : Nat := if poi then 7 else if done then 5 else if change && !write then 6 else if k.size < 1 \/ 8 < k.size then 1 else 0
set_option maxHeartbeats 1000000 in
theorem zdb (t x : Nat) (τ : TxS) (s : DbS) (l : Int) (op k : ByteArray) (ch : Bool) (g : Nat) (w : World) (hT : TxAt w t τ) (hD : Blk w x 91 (zbw s l)) (hx : τ.db = x) (hg : w.cell? ⟨g, 0, none⟩ = some (.string k)) (hk : k.size <= 9223372036854775807) :
   Calls Tryz.prog 54 #[.pointer (some ⟨t, 0, none⟩), .string op, .bool ch, .slice (some ⟨g, 0, none⟩) 1 1] w fun e w' => ∃ v, e = .returned v /\ Ans w w' v op (zbe s.poi τ.done ch τ.write k) := by
 obtain ⟨db, root, keys, write, done, stamp⟩ := τ
 obtain ⟨dk, root', keys', writer, rd, poi⟩ := s
 subst hx
 have d7 : w.cell? ⟨db, 7, none⟩ = some (.bool poi) := zab hD 7 rfl
 have t0 : w.cell? ⟨t, 0, none⟩ = some (.pointer (some ⟨db, 0, none⟩)) := zab hT 0 rfl
 have t3 : w.cell? ⟨t, 3, none⟩ = some (.bool write) := zab hT 3 rfl
 have t4 : w.cell? ⟨t, 4, none⟩ = some (.bool done) := zab hT 4 rfl
 clear hT hD
 have hOK := Ans.ok w op
 have hF := fun c h => Ans.fault w op c h
 by_cases hbad : k.size < 1 \/ 8 < k.size
 . have hq : (decide ((k.size : Int) < 1) || decide (8 < (k.size : Int))) = true := by
     simp only [Bool.or_eq_true, decide_eq_true_eq]; omega
   have HQ := zaa hq
   have HBAD := zaa hbad
   rcases hbad with hb | hb
   . have hb' : (k.size : Int) < 1 := by omega
     have hb'' : k.size = 0 := by omega
     cases poi <;> cases done <;> cases ch <;> cases write <;>
     . simp only [zbe, Bool.and_true, Bool.and_false, Bool.not_true, Bool.not_false, if_true, if_false, Bool.false_eq_true, Bool.and_self, if_pos HBAD.out]
       go_enter Tryz.func54, Tryz.ntmps54
       go_wp2_with (go_at_call 53; refine (zb6 _ _ _).mono ?_; rintro e w' ⟨rfl, rfl⟩)
       first
        | (go_ret; exact ⟨_, rfl, hF _ (by decide)⟩)
        | (refine wp_loop_rounds 1 ?_
           rw [rounds_succ]
           go_wp2_with (go_at_call 53; refine (zb6 _ _ _).mono ?_; rintro e w' ⟨rfl, rfl⟩)
           go_ret
           exact ⟨_, rfl, hF _ (by decide)⟩)
   . have hb' : ¬ (k.size : Int) < 1 := by omega
     have hb'' : (8 : Int) < (k.size : Int) := by omega
     cases poi <;> cases done <;> cases ch <;> cases write <;>
     . simp only [zbe, Bool.and_true, Bool.and_false, Bool.not_true, Bool.not_false, if_true, if_false, Bool.false_eq_true, Bool.and_self, if_pos HBAD.out]
       go_enter Tryz.func54, Tryz.ntmps54
       go_wp2_with (go_at_call 53; refine (zb6 _ _ _).mono ?_; rintro e w' ⟨rfl, rfl⟩)
       first
        | (go_ret; exact ⟨_, rfl, hF _ (by decide)⟩)
        | (refine wp_loop_rounds 1 ?_
           rw [rounds_succ]
           go_wp2_with (go_at_call 53; refine (zb6 _ _ _).mono ?_; rintro e w' ⟨rfl, rfl⟩)
           go_ret
           exact ⟨_, rfl, hF _ (by decide)⟩)
 . have h1 : ¬ (k.size : Int) < 1 := by omega
   have h2 : ¬ (8 : Int) < (k.size : Int) := by omega
   have HBAD := zaa hbad
   cases poi <;> cases done <;> cases ch <;> cases write <;>
   . simp only [zbe, Bool.and_true, Bool.and_false, Bool.not_true, Bool.not_false, if_true, if_false, Bool.false_eq_true, Bool.and_self, if_neg HBAD.out]
     go_enter Tryz.func54, Tryz.ntmps54
     go_wp2_with (go_at_call 53; refine (zb6 _ _ _).mono ?_; rintro e w' ⟨rfl, rfl⟩)
     first
      | (go_ret; exact ⟨_, rfl, hF _ (by decide)⟩)
      | (refine wp_loop_rounds 2 ?_
         rw [rounds_succ]
         go_wp2
         rw [rounds_succ]
         go_wp2
         go_ret
         exact ⟨_, rfl, hOK⟩)
theorem Ans.old {_w0 w w' : World} {v : Value} {op : ByteArray} {c : Nat} (h : Ans w w' v op c) : Below w.heap.size w w' := h.1
def AnsV (w' : World) (B : Nat) (v : Value) (op : ByteArray) (c : Nat) : Prop := (c = 0 /\ v = .nilIface) \/ (c ≠ 0 /\ ∃ f, v = zag f /\ zao w' f op c /\ B <= f)
theorem Ans.v {w w' : World} {v : Value} {op : ByteArray} {c : Nat} (h : Ans w w' v op c) : AnsV w' w.heap.size v op c := by
 rcases h.2 with ⟨h1, h2, _⟩ | ⟨h1, f, h2, h3, h4⟩
 . exact .inl ⟨h1, h2⟩
 . exact .inr ⟨h1, f, h2, h3, h4⟩
theorem AnsV.only {w w' : World} {B : Nat} {v : Value} {op : ByteArray} {c : Nat} {fp : Nat -> Prop} (h : AnsV w B v op c) (ho : Only fp w w') (hf : ∀ f, B <= f -> f < w.heap.size -> ∀ cs, Blk w f 130 cs -> ¬ fp f) : AnsV w' B v op c := by
 rcases h with h | ⟨h1, f, h2, h3, h4⟩
 . exact .inl h
 . exact .inr ⟨h1, f, h2, Blk.only h3 ho (hf f h4 h3.lt _ h3), h4⟩
theorem AnsV.mono {w : World} {B B' : Nat} {v : Value} {op : ByteArray} {c : Nat} (h : AnsV w B v op c) (hB : B' <= B) : AnsV w B' v op c := by
 rcases h with h | ⟨h1, f, h2, h3, h4⟩
 . exact .inl h
 . exact .inr ⟨h1, f, h2, h3, by omega⟩
set_option maxHeartbeats 1000000 in
theorem zhp (t x : Nat) (τ : TxS) (s : DbS) (op : ByteArray) (w : World) (hT : TxAt w t τ) (hD : DbAt w x s) (hx : τ.db = x) (r : Option Addr) (hroot : τ.root = .pointer r) :
   Calls Tryz.prog 66 #[.pointer (some ⟨t, 0, none⟩), .string op] w fun e w' => ∃ v, e = .returned (.tuple #[.agg #[τ.root, .int .i64 τ.keys], v]) /\ AnsV w' w.heap.size v op (mayC s.poi τ.done false τ.write) /\ DbAt w' x s /\ TxAt w' t τ /\ Only (· = x) w w' := by
 have t0 : w.cell? ⟨t, 0, none⟩ = some (.pointer (some ⟨x, 0, none⟩)) := by rw [<- hx]; exact zab hT 0 rfl
 have t0' := fun o => zaj o t0
 have htx : t ≠ x := Blk.ne_ hT hD (by decide)
 have hbA := (Below.refl w.heap.size w).alloc (Nat.le_refl _) (.cells #[.pointer none, .int .i64 0] 88)
 have HL := zaa (zce (hD.alloc (.cells #[.pointer none, .int .i64 0] 88)) rfl)
 have HT := zaa hT
 have HD := zaa hD
 have HXL := zaa hD.lt
 have HTL := zaa hT.lt
 clear hT hD
 go_enter_defers Tryz.func66, Tryz.ntmps66
 go_wp2_with (go_at_call 51; refine HL.out.mono ?_; rintro e w1 ⟨rfl, hb1, ho1, hs1⟩
              have hT1 := (HT.out.alloc (.cells #[.pointer none, .int .i64 0] 88)).only ho1 htx
              have k0 : w1.cell? ⟨t, 0, none⟩ = some (.pointer (some ⟨x, 0, none⟩)) := by rw [<- hx]; exact zab hT1 0 rfl
              have k1 : w1.cell? ⟨t, 1, none⟩ = some τ.root := zab hT1 1 rfl
              have k2 : w1.cell? ⟨t, 2, none⟩ = some (.int .i64 τ.keys) := zab hT1 2 rfl
              have hTr := (Blk.new w 88 #[.pointer none, .int .i64 0]).only ho1 (show ¬ w.heap.size = x by have := HXL.out; omega)
              rw [hroot] at k1
              have HM := zaa (zij t x τ s 1 op false w1.drew hT1.drew hb1.drew hx)
              have HT1 := zaa hT1
              have HB1 := zaa hb1
              have HO1 := zaa ho1
              have HTR := zaa hTr
              clear hT1 hb1 ho1 hTr)
 have htl1 : t < w1.heap.size := HT1.out.lt
 have htl0 : t < w.heap.size := HTL.out
 have hne0 : (⟨w.heap.size, 0, none⟩ : Addr).block ≠ t := by show w.heap.size ≠ t; omega
 go_region_held3 (fun w' => w'.cell? ⟨t, 1, none⟩ = some (.pointer r) /\ w'.cell? ⟨t, 2, none⟩ = some (.int .i64 τ.keys)) (first | go_keep | (exact ⟨(hk1.cell (p := ⟨t, 1, none⟩) htl1).trans k1, (hk1.cell (p := ⟨t, 2, none⟩) htl1).trans k2⟩) | (refine ⟨?_, ?_⟩ <;> (rw [World.cell?_setCell_other _ _ _ _ (by intro e; injection e; omega), World.cell?_setCell_other _ _ _ _ (by intro e; injection e; omega)]; assumption)))
  (first
   | (go_at_call 54
      ((with_reducible refine HM.out.mono ?_)
       rintro e w2 ⟨v, rfl, ha⟩
       have hk1 : Below w1.heap.size w1.drew w2 := ha.1
       have e1 : w2.cell? ⟨t, 1, none⟩ = some (.pointer r) := (hk1.cell (p := ⟨t, 1, none⟩) htl1).trans k1
       have e2 : w2.cell? ⟨t, 2, none⟩ = some (.int .i64 τ.keys) := (hk1.cell (p := ⟨t, 2, none⟩) htl1).trans k2
       have hTr2 := HTR.out.drew.below hk1 HTR.out.lt
       have g0 := zab hTr2 0 rfl
       have g1 := zab hTr2 1 rfl
       have z0 : w2.frozen? ⟨w.heap.size, 0, none⟩ = false := hTr2.frozen 0
       have z1 : w2.frozen? ⟨w.heap.size, 1, none⟩ = false := hTr2.frozen 1
       have HA := zaa ha
       have HTR2 := zaa hTr2
       clear ha hTr2)))
 go_wp2
 have hxl := HXL.out
 have hx1 : x < w1.heap.size := HB1.out.lt
 have hzz : w.heap.size < w1.heap.size := HTR.out.lt
 have hW : ∃ W, W = (w2.setCell ⟨w.heap.size, 0, none⟩ (.pointer r)).setCell ⟨w.heap.size, 1, none⟩ (.int .i64 τ.keys) := ⟨_, rfl⟩
 obtain ⟨W, hW⟩ := hW
 have hoW : Only (· = w.heap.size) w2 W := by rw [hW]; exact (Only.set1 _ _ _ _).set2 _ _
 have hTrW : Blk W w.heap.size 88 #[.pointer r, .int .i64 τ.keys] := by rw [hW]; exact ((HTR2.out).set_ 0 _).set_ 1 _
 have hb2 := (HB1.out.drew.below hk1 hx1)
 have hbW := hb2.only hoW (show ¬ x = w.heap.size by omega)
 rw [<- hW]
 refine leaves_cons (f := 52) (args := #[.pointer (some ⟨x, 0, none⟩)]) (by simp) (by simp [go_sem]) ?_
 refine (zbd .returning hbW rfl).mono ?_
 rintro e u' w4 ⟨rfl, rfl, hb4, ho4, hs4⟩
 have hTr4 := hTrW.only ho4 (show ¬ w.heap.size = x by omega)
 have r0 := zab hTr4 0 rfl
 have r1 := zab hTr4 1 rfl
 have hT2 := HT1.out.drew.below hk1 htl1
 refine ⟨.tuple #[.agg #[.pointer r, .int .i64 τ.keys], v], by simp [results, Tryz.results66, go_sem, r0, r1], v, ?_, ?_, hb4, ?_, ?_⟩
 . rw [hroot]
 . have h1 := HA.out.v
   have h2 := h1.only hoW (fun f hf _ cs hb e => by have : w1.heap.size <= f := hf; omega)
   exact (h2.only ho4 (fun f hf _ cs hb e => by have : w1.heap.size <= f := hf; omega)).mono (by show w.heap.size <= w1.heap.size; omega)
 . exact (hT2.only hoW (by omega)).only ho4 htx
 . have h1 : Only (· = x) w w1 := ((Only.refl _ _).alloc _).trans HO1.out
   have h2 : Only (· = x) w1 w2 := (Only.refl _ _).drew.below (Below.mono hk1 (Nat.le_refl _))
   exact ((h1.trans h2).trans' hoW (fun y hy e => by omega)).trans ho4
end Go.Proofs.YtemondlgcmpbbaaGreatDoor
