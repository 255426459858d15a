/- To Bg Ma Se En: merged. -/
import Derived.Test.YtemondlgcmpbbaaGreatDoorMP06
import Derived.Test.YtemondlgcmpbbaaGreatDoorMP18
import Derived.Deep.RegionHeld3
namespace Go.Proofs.YtemondlgcmpbbaaGreatDoor
open Go.RowKit
set_option maxRecDepth 100000
theorem zxr (w : World) : Calls Tryz.prog 30 #[.nilIface] w fun e w' => e = .returned (.int .i64 0) /\ w = w' := by
 go_enter Tryz.func30, Tryz.ntmps30
 go_wp2
 go_ret
 exact ⟨rfl, rfl⟩
theorem zja (f e : Nat) (s : ByteArray) (tb : Nat) (z : Int) (w : World) (hF : zbj w f s e) (hg : Glob w) (ht : Blk w tb 44 #[.int .i64 z]) :
   Calls Tryz.prog 63 #[zau f, .iface 108 (.pointer (some ⟨tb, 0, none⟩))] w fun ev w' => ev = .returned (.bool true) /\ Blk w' tb 44 #[.int .i64 e] /\ Only (· = tb) w w' := by
 refine (zw7 f e s tb z w hF hg ht).mono ?_
 rintro ev w' ⟨rfl, w0, hb, rfl⟩
 exact ⟨rfl, (ht.below hb ht.lt).set_ 0 (.int .i64 e), Only.setCell (fp := (· = tb)) (p := ⟨tb, 0, none⟩) (Only.of_below hb) (.inl rfl) _⟩
theorem zgh (f n : Nat) (s : ByteArray) (w : World) (hF : zbj w f s n) (hg : Glob w) : Calls Tryz.prog 30 #[zau f] w fun e w' => e = .returned (.int .i64 n) /\ Below w.heap.size w w' := by
 have hbel : Below w.heap.size w (w.alloc (.cells #[.int .i64 0] 44)) := (Below.refl _ _).alloc (Nat.le_refl _) _
 have HA := zaa (zja f n s w.heap.size 0 (w.alloc (.cells #[.int .i64 0] 44)) (hF.below hbel hF.lt) (hg.alloc _) (Blk.new _ _ _))
 unfold zau at HA
 clear hF hg
 unfold zau
 go_enter Tryz.func30, Tryz.ntmps30
 go_wp2_with (go_at_call 63; refine HA.out.mono ?_; rintro e w' ⟨rfl, hb, ho⟩; have hc := zab hb 0 rfl)
 go_ret
 exact ⟨rfl, hbel.trans (ho.to_below (by simp) fun x hx => by omega)⟩
theorem zem (s : ByteArray) (n : Int) (w : World) : Calls Tryz.prog 53 #[.string s, .int .i64 n] w fun e w' => e = .returned (zau w.heap.size) /\ w' = w.alloc (.cells #[.string s, .iface 44 (.int .i64 n)] 130) := by
 go_enter Tryz.func53, Tryz.ntmps53
 go_wp2
 go_ret
 exact ⟨rfl, rfl⟩
def z3k : ByteArray := ⟨#[102, 111, 114, 109, 97, 116]⟩
def zfv (n : Nat) : Bool := decide (8 <= n) && decide (n <= 400)
theorem zhm (n : Nat) : zfv n = true ↔ 8 <= n /\ n <= 400 := by simp [zfv]
def dev (b : Nat) : Value := .iface 23 (.pointer (some ⟨b, 0, none⟩))
section
variable (K b g base n : Nat) (cv : Value) (m : Nums) (bytes : List UInt8) (cache : List (Nat × List UInt8)) (w : World)
theorem zru (h : Dk w K b g base n cv m bytes cache) (hc : m.calm) (hK : K + 5 < zbf) (hf : zfv n = true) :
   Calls Tryz.prog 50 #[.pointer (some ⟨b, 0, none⟩)] w fun e w' => e = .returned .nilIface /\ Dk w' (K + 5) b g base n (.slice none 0 0) (za6 m 2).tick.wrote.tick (zh0 bytes cache (za2 (zba (dread bytes cache)))) [] /\ Only (fun x => x = b \/ x = g) w w' := by
 have hn := (zhm n).1 hf
 have HF := zaa (zkn b n (zdb bytes) (some ⟨g, 0, none⟩) cv m w h.at_ h.fits)
 have HD := zaa (zrb K b g base n cv m bytes cache w h hc hn.1 hK)
 unfold zfv at hf
 rw [hf] at HF
 clear h hf hc
 go_enter Tryz.func50, Tryz.ntmps50
 go_wp2_with (first
  | (go_at_call 77; go_in)
  | (go_at_call 103; refine HF.out.mono ?_; rintro e w' ⟨rfl, rfl⟩)
  | (go_at_call 109; refine HD.out.mono ?_; rintro e w' ⟨rfl, hd, ho⟩))
 go_ret
 exact ⟨rfl, hd, ho⟩
end
structure DbS where
 dk : Nat
 root : Value
 keys : Int
 writer : Value
 rd : Nat
 poi : Bool
def DbAt (w : World) (x : Nat) (s : DbS) : Prop := Blk w x 91 #[.int .i32 0, .int .u32 0, .pointer (some ⟨s.dk, 0, none⟩), s.root, .int .i64 s.keys, s.writer, .map (some s.rd), .bool s.poi]
def DbS.fresh (dk rd : Nat) : DbS := ⟨dk, .pointer none, 0, .pointer none, rd, false⟩
theorem zme (K b g base n : Nat) (cv : Value) (m : Nums) (bytes : List UInt8) (cache : List (Nat × List UInt8)) (w : World) (h : Dk w K b g base n cv m bytes cache) (hc : m.calm) (hK : K + 5 < zbf) (hf : zfv n = true) (hd : Hd) (tl : List Hd) (hh : zba (dread bytes cache) = hd :: tl) (hz0 : hd.blk = 0) :
   Calls Tryz.prog 38 #[.pointer (some ⟨b, 0, none⟩)] w fun e w' => ∃ x dk rd, e = .returned (.tuple #[.pointer (some ⟨x, 0, none⟩), .nilIface]) /\ DbAt w' x (DbS.fresh dk rd) /\ RdAt w' rd [] /\ Blk w' dk 151 (#[dev b] ++ hd.cells) /\ w.heap.size <= x /\ w.heap.size <= dk /\ w.heap.size <= rd /\
    Dk w' (K + 3) b g base n (.slice none 0 0) (za6 m 3) (zap bytes cache) [] /\ Only (fun x => x = b \/ x = g) w w' := by
 have hmm := @run_makeMap Tryz.prog
 have hn := (zhm n).1 hf
 have HF := zaa (zkn b n (zdb bytes) (some ⟨g, 0, none⟩) cv m w h.at_ h.fits)
 have HD := zaa (ztp K b g base n m bytes cache cv w h hc hn.1 hK hd tl hh hz0)
 unfold zfv at hf
 rw [hf] at HF
 clear h hf hc hh hz0
 go_enter Tryz.func38, Tryz.ntmps38
 go_wp2_with (first
  | (go_at_call 65; go_in)
  | (go_at_call 103; refine HF.out.mono ?_; rintro e w' ⟨rfl, rfl⟩)
  | (go_at_call 104; refine HD.out.mono ?_; rintro e w' ⟨f, rfl, hb, hz, hd', ho⟩; have HB := zaa hb; have HD' := zaa hd'; have HO := zaa ho; clear hb hd' ho))
 go_ret2
 have hbel : Below w'.heap.size w' (((w'.alloc (.cells #[.pointer none, .int .i64 0] 88)).alloc (.map #[] 0)).alloc (.cells #[.int .i32 0, .int .u32 0, .pointer (some ⟨f, 0, none⟩), .pointer none, .int .i64 0, .pointer none, .map (some (w'.heap.size + 1)), .bool false] 91)) := (((Below.refl _ _).alloc (Nat.le_refl _) _).alloc (by simp) _).alloc (by simp; omega) _
 have hzz := HO.out.size
 have hblk : DbAt (((w'.alloc (.cells #[.pointer none, .int .i64 0] 88)).alloc (.map #[] 0)).alloc (.cells #[.int .i32 0, .int .u32 0, .pointer (some ⟨f, 0, none⟩), .pointer none, .int .i64 0, .pointer none, .map (some (w'.heap.size + 1)), .bool false] 91)) (w'.heap.size + 1 + 1) (DbS.fresh f (w'.heap.size + 1)) := by
  have := Blk.new ((w'.alloc (.cells #[.pointer none, .int .i64 0] 88)).alloc (.map #[] 0)) 91 #[.int .i32 0, .int .u32 0, .pointer (some ⟨f, 0, none⟩), .pointer none, .int .i64 0, .pointer none, .map (some (w'.heap.size + 1)), .bool false]
  unfold DbAt DbS.fresh
  simpa using this
 have hrd : RdAt ((w'.alloc (.cells #[.pointer none, .int .i64 0] 88)).alloc (.map #[] 0)) (w'.heap.size + 1) [] := by
  have := RdAt.new (w'.alloc (.cells #[.pointer none, .int .i64 0] 88))
  simpa using this
 refine ⟨w'.heap.size + 1 + 1, f, w'.heap.size + 1, rfl, hblk, hrd.only ((Only.refl (fun _ => False) _).alloc _) id, HB.out.below hbel HB.out.lt, by omega, hz, by omega, HD'.out.below hbel, HO.out.below hbel⟩
theorem zef {x : Nat} {T : TypeId} {cs : Array Value} {w : World} (h : Blk w x T cs) (h0 : cs[0]? = some (.int .i32 0)) :
   Calls Tryz.prog 51 #[.pointer (some ⟨x, 0, none⟩)] w fun e w' => e = .returned (.tuple #[]) /\ Blk w' x T (cs.setIfInBounds 0 (.int .i32 1)) /\ Only (· = x) w w' /\ w'.heap.size = w.heap.size := by
 refine (MuLone.lock_free zym ⟨x, 0, none⟩ w (by rw [h.cell]; exact h0) (h.frozen 0)).mono ?_
 rintro e w' ⟨rfl, rfl⟩
 exact ⟨rfl, h.set_ 0 _, Only.set1 _ _ _ _, by simp [World.setCell]⟩
theorem zcf {x : Nat} {T : TypeId} {cs : Array Value} {w : World} (u : FrameMode) (h : Blk w x T cs) (h0 : cs[0]? = some (.int .i32 1)) :
   CallsD Tryz.prog 52 #[.pointer (some ⟨x, 0, none⟩)] u w fun e u' w' => u' = u /\ (e = .returned (.tuple #[]) /\ Blk w' x T (cs.setIfInBounds 0 (.int .i32 0)) /\ Only (· = x) w w' /\ w'.heap.size = w.heap.size) := by
 refine (MuLone.unlock_deferred zym ⟨x, 0, none⟩ u w (by rw [h.cell]; exact h0) (h.frozen 0)).mono ?_
 rintro e u' w' ⟨rfl, rfl, rfl⟩
 exact ⟨rfl, rfl, h.set_ 0 _, Only.set1 _ _ _ _, by simp [World.setCell]⟩
structure TxS where
 db : Nat
 root : Value
 keys : Int
 write : Bool
 done : Bool
 stamp : Int
def TxAt (w : World) (t : Nat) (s : TxS) : Prop := Blk w t 94 #[.pointer (some ⟨s.db, 0, none⟩), s.root, .int .i64 s.keys, .bool s.write, .bool s.done, .int .i64 s.stamp]
def zb8 (s : DbS) (l : Int) : Array Value := #[.int .i32 l, .int .u32 0, .pointer (some ⟨s.dk, 0, none⟩), s.root, .int .i64 s.keys, s.writer, .map (some s.rd), .bool s.poi]
set_option maxHeartbeats 1000000 in
theorem znt (x : Nat) (s : DbS) (ks : List Nat) (w : World) (h : DbAt w x s) (hp : s.poi = false) (hr : RdAt w s.rd ks) (hk : ∀ k ∈ ks, TxB w k) (h4 : ks.length < 4) :
   Calls Tryz.prog 22 #[.pointer (some ⟨x, 0, none⟩), .bool false] w fun e w' => ∃ t, e = .returned (.tuple #[.pointer (some ⟨t, 0, none⟩), .nilIface]) /\ TxAt w' t ⟨x, s.root, s.keys, false, false, 0⟩ /\ DbAt w' x s /\ RdAt w' s.rd (ks ++ [t]) /\ w.heap.size <= t /\ Only (fun y => y = x \/ y = s.rd) w w' := by
 obtain ⟨dk, root, keys, writer, rd, poi⟩ := s
 simp only at hp hr
 subst hp
 have hrx : rd ≠ x := hr.ne_blk h
 have HL := zaa (zef h rfl)
 have h4' : ¬ (ks.length : Int) = 4 := by omega
 have h4b : decide ((ks.length : Int) = 4) = false := by simpa using h4'
 have h4c : ((ks.length : Int) == 4) = false := by simpa using h4'
 have HR := zaa hr
 have HK := zaa hk
 have HXL := zaa h.lt
 have HKX := zaa (show ∀ k ∈ ks, k ≠ x from fun k hk' e => by obtain ⟨cs, hb⟩ := hk k hk'; subst e; exact Blk.ne_ hb h (by decide) rfl)
 have H4 := zaa h4
 clear h hr hk
 go_enter_defers Tryz.func22, Tryz.ntmps22
 go_wp2_with (go_at_call 51; refine HL.out.mono ?_; rintro e w1 ⟨rfl, hb1, ho1, hs1⟩
              have c2 : w1.cell? ⟨x, 3, none⟩ = some root := zab hb1 3 rfl
              have c3 : w1.cell? ⟨x, 4, none⟩ = some (.int .i64 keys) := zab hb1 4 rfl
              have c5 : w1.cell? ⟨x, 5, none⟩ = some writer := zab hb1 5 rfl
              have c6 : w1.cell? ⟨x, 6, none⟩ = some (.map (some rd)) := zab hb1 6 rfl
              have c6' := fun o => zai o c6
              have c7 : w1.cell? ⟨x, 7, none⟩ = some (.bool false) := zab hb1 7 rfl
              have hr1 := HR.out.only ho1 hrx
              have hl := fun ty => z1b hr1 ty
              obtain ⟨W2, hW2⟩ : ∃ W2, W2 = w1.alloc (.cells #[.pointer (some ⟨x, 0, none⟩), root, .int .i64 keys, .bool false, .bool false, .int .i64 0] 94) := ⟨_, rfl⟩
              have hoA : Only (fun _ => False) w1 W2 := by rw [hW2]; exact (Only.refl _ _).alloc _
              have hT2 : TxAt W2 w1.heap.size ⟨x, root, keys, false, false, 0⟩ := by rw [hW2]; exact Blk.new _ _ _
              have hkl : ∀ k ∈ ks, k < w.heap.size := fun k hk => by obtain ⟨_, hb⟩ := HK.out k hk; exact hb.lt
              obtain ⟨w3, hrun, hr3, ho3, hs3⟩ := z1a (w := W2) (x := w1.heap.size) (hr1.only hoA id) (fun k hk => by obtain ⟨cs, hb⟩ := HK.out k hk; exact ⟨cs, (hb.only ho1 (HKX.out k hk)).only hoA id⟩) ⟨_, hT2⟩ (fun hm => by have := hkl _ hm; omega) (.int .i64 1)
              unfold pk at hrun
              rw [hW2] at hrun
              have HB1 := zaa hb1
              have HO1 := zaa ho1
              have HS1 := zaa hs1
              have HOA := zaa hoA
              have HT2 := zaa hT2
              have HR3 := zaa hr3
              have HO3 := zaa ho3
              have HW2 := zaa hW2
              clear hb1 ho1 hs1 hr1 hoA hT2 hr3 ho3 hs3 hW2 hkl)
 have hxl := HXL.out
 have hz1 := HS1.out
 have hrl := HR.out.lt
 have hb3 : Blk w3 x 91 _ := (HB1.out.only HOA.out id).only HO3.out (fun e => hrx e.symm)
 have hT3 := HT2.out.only HO3.out (show ¬ w1.heap.size = rd by omega)
 refine leaves_cons (f := 52) (args := #[.pointer (some ⟨x, 0, none⟩)]) (by simp) (by simp [go_sem]) ?_
 refine (zcf .returning hb3 rfl).mono ?_
 rintro e u' w4 ⟨rfl, rfl, hb4, ho4, hs4⟩
 refine ⟨_, results_tmp2 rfl _ _ _, ?_⟩
 refine ⟨w1.heap.size, rfl, hT3.only ho4 (by omega), hb4, HR3.out.only ho4 hrx, by omega, ?_⟩
 exact Only.trans' (fp := fun y => y = x \/ y = rd) ((HO1.out.mono fun _ _ h => .inl h).trans (HOA.out.mono fun _ _ h => h.elim)) (HO3.out.mono (fq := fun y => y = x \/ y = rd) (fun _ _ h => .inr h) |>.trans (ho4.mono fun _ _ h => .inl h)) (fun y _ h => h)
def mayC (poi done change write : Bool) : Nat := if poi then 7 else if done then 5 else if change && !write then 6 else 0
def Ans (w w' : World) (v : Value) (op : ByteArray) (c : Nat) : Prop := Below w.heap.size w w' /\ ((c = 0 /\ v = .nilIface /\ w = w') \/ (c ≠ 0 /\ ∃ f, v = zau f /\ zbj w' f op c /\ w.heap.size <= f))
theorem Ans.ok (w : World) (op : ByteArray) : Ans w w .nilIface op 0 := ⟨Below.refl _ _, .inl ⟨rfl, rfl, rfl⟩⟩
theorem Ans.fault (w : World) (op : ByteArray) (c : Nat) (h : c ≠ 0) : Ans w (w.alloc (.cells #[.string op, .iface 44 (.int .i64 c)] 130)) (zau w.heap.size) op c :=
 ⟨(Below.refl _ _).alloc (Nat.le_refl _) _, .inr ⟨h, _, rfl, Blk.new _ _ _, Nat.le_refl _⟩⟩
set_option maxHeartbeats 1000000 in
theorem zk9 (t x : Nat) (τ : TxS) (s : DbS) (l : Int) (op : ByteArray) (ch : Bool) (w : World) (hT : TxAt w t τ) (hD : Blk w x 91 (zb8 s l)) (hx : τ.db = x) :
   Calls Tryz.prog 54 #[.pointer (some ⟨t, 0, none⟩), .string op, .bool ch, .slice none 0 0] w fun e w' => ∃ v, e = .returned v /\ Ans w w' v op (mayC s.poi τ.done ch τ.write) := by
 obtain ⟨db, root, keys, write, done, stamp⟩ := τ
 obtain ⟨dk, root', keys', writer, rd, poi⟩ := s
 subst hx
 have d7 : w.cell? ⟨db, 7, none⟩ = some (.bool poi) := zab hD 7 rfl
 have t0 : w.cell? ⟨t, 0, none⟩ = some (.pointer (some ⟨db, 0, none⟩)) := zab hT 0 rfl
 have t3 : w.cell? ⟨t, 3, none⟩ = some (.bool write) := zab hT 3 rfl
 have t4 : w.cell? ⟨t, 4, none⟩ = some (.bool done) := zab hT 4 rfl
 clear hT hD
 have hOK := Ans.ok w op
 have hF := fun c h => Ans.fault w op c h
 cases poi <;> cases done <;> cases ch <;> cases write <;>
 . simp only [mayC, Bool.and_true, Bool.and_false, Bool.not_true, Bool.not_false, if_true, if_false, Bool.false_eq_true, Bool.and_self]
   go_enter Tryz.func54, Tryz.ntmps54
   go_wp2_with (go_at_call 53; refine (zem _ _ _).mono ?_; rintro e w' ⟨rfl, rfl⟩)
   first
    | (go_ret; exact ⟨_, rfl, hF _ (by decide)⟩)
    | (refine wp_loop_rounds 1 ?_
       rw [rounds_succ]
       go_wp2
       go_ret
       exact ⟨_, rfl, hOK⟩)
def zf9 (poi done change write : Bool) (k : ByteArray) : Nat := if poi then 7 else if done then 5 else if change && !write then 6 else if k.size < 1 \/ 8 < k.size then 1 else 0
set_option maxHeartbeats 1000000 in
theorem zib (t x : Nat) (τ : TxS) (s : DbS) (l : Int) (op k : ByteArray) (ch : Bool) (g : Nat) (w : World) (hT : TxAt w t τ) (hD : Blk w x 91 (zb8 s l)) (hx : τ.db = x) (hg : w.cell? ⟨g, 0, none⟩ = some (.string k)) (hk : k.size <= 9223372036854775807) :
   Calls Tryz.prog 54 #[.pointer (some ⟨t, 0, none⟩), .string op, .bool ch, .slice (some ⟨g, 0, none⟩) 1 1] w fun e w' => ∃ v, e = .returned v /\ Ans w w' v op (zf9 s.poi τ.done ch τ.write k) := by
 obtain ⟨db, root, keys, write, done, stamp⟩ := τ
 obtain ⟨dk, root', keys', writer, rd, poi⟩ := s
 subst hx
 have d7 : w.cell? ⟨db, 7, none⟩ = some (.bool poi) := zab hD 7 rfl
 have t0 : w.cell? ⟨t, 0, none⟩ = some (.pointer (some ⟨db, 0, none⟩)) := zab hT 0 rfl
 have t3 : w.cell? ⟨t, 3, none⟩ = some (.bool write) := zab hT 3 rfl
 have t4 : w.cell? ⟨t, 4, none⟩ = some (.bool done) := zab hT 4 rfl
 clear hT hD
 have hOK := Ans.ok w op
 have hF := fun c h => Ans.fault w op c h
 by_cases hbad : k.size < 1 \/ 8 < k.size
 . have hq : (decide ((k.size : Int) < 1) || decide (8 < (k.size : Int))) = true := by
     simp only [Bool.or_eq_true, decide_eq_true_eq]; omega
   have HQ := zaa hq
   have HBAD := zaa hbad
   rcases hbad with hb | hb
   . have hb' : (k.size : Int) < 1 := by omega
     have hb'' : k.size = 0 := by omega
     cases poi <;> cases done <;> cases ch <;> cases write <;>
     . simp only [zf9, Bool.and_true, Bool.and_false, Bool.not_true, Bool.not_false, if_true, if_false, Bool.false_eq_true, Bool.and_self, if_pos HBAD.out]
       go_enter Tryz.func54, Tryz.ntmps54
       go_wp2_with (go_at_call 53; refine (zem _ _ _).mono ?_; rintro e w' ⟨rfl, rfl⟩)
       first
        | (go_ret; exact ⟨_, rfl, hF _ (by decide)⟩)
        | (refine wp_loop_rounds 1 ?_
           rw [rounds_succ]
           go_wp2_with (go_at_call 53; refine (zem _ _ _).mono ?_; rintro e w' ⟨rfl, rfl⟩)
           go_ret
           exact ⟨_, rfl, hF _ (by decide)⟩)
   . have hb' : ¬ (k.size : Int) < 1 := by omega
     have hb'' : (8 : Int) < (k.size : Int) := by omega
     cases poi <;> cases done <;> cases ch <;> cases write <;>
     . simp only [zf9, Bool.and_true, Bool.and_false, Bool.not_true, Bool.not_false, if_true, if_false, Bool.false_eq_true, Bool.and_self, if_pos HBAD.out]
       go_enter Tryz.func54, Tryz.ntmps54
       go_wp2_with (go_at_call 53; refine (zem _ _ _).mono ?_; rintro e w' ⟨rfl, rfl⟩)
       first
        | (go_ret; exact ⟨_, rfl, hF _ (by decide)⟩)
        | (refine wp_loop_rounds 1 ?_
           rw [rounds_succ]
           go_wp2_with (go_at_call 53; refine (zem _ _ _).mono ?_; rintro e w' ⟨rfl, rfl⟩)
           go_ret
           exact ⟨_, rfl, hF _ (by decide)⟩)
 . have h1 : ¬ (k.size : Int) < 1 := by omega
   have h2 : ¬ (8 : Int) < (k.size : Int) := by omega
   have HBAD := zaa hbad
   cases poi <;> cases done <;> cases ch <;> cases write <;>
   . simp only [zf9, Bool.and_true, Bool.and_false, Bool.not_true, Bool.not_false, if_true, if_false, Bool.false_eq_true, Bool.and_self, if_neg HBAD.out]
     go_enter Tryz.func54, Tryz.ntmps54
     go_wp2_with (go_at_call 53; refine (zem _ _ _).mono ?_; rintro e w' ⟨rfl, rfl⟩)
     first
      | (go_ret; exact ⟨_, rfl, hF _ (by decide)⟩)
      | (refine wp_loop_rounds 2 ?_
         rw [rounds_succ]
         go_wp2
         rw [rounds_succ]
         go_wp2
         go_ret
         exact ⟨_, rfl, hOK⟩)
theorem Ans.old {_w0 w w' : World} {v : Value} {op : ByteArray} {c : Nat} (h : Ans w w' v op c) : Below w.heap.size w w' := h.1
def AnsV (w' : World) (B : Nat) (v : Value) (op : ByteArray) (c : Nat) : Prop := (c = 0 /\ v = .nilIface) \/ (c ≠ 0 /\ ∃ f, v = zau f /\ zbj w' f op c /\ B <= f)
theorem Ans.v {w w' : World} {v : Value} {op : ByteArray} {c : Nat} (h : Ans w w' v op c) : AnsV w' w.heap.size v op c := by
 rcases h.2 with ⟨h1, h2, _⟩ | ⟨h1, f, h2, h3, h4⟩
 . exact .inl ⟨h1, h2⟩
 . exact .inr ⟨h1, f, h2, h3, h4⟩
theorem AnsV.only {w w' : World} {B : Nat} {v : Value} {op : ByteArray} {c : Nat} {fp : Nat -> Prop} (h : AnsV w B v op c) (ho : Only fp w w') (hf : ∀ f, B <= f -> f < w.heap.size -> ∀ cs, Blk w f 130 cs -> ¬ fp f) : AnsV w' B v op c := by
 rcases h with h | ⟨h1, f, h2, h3, h4⟩
 . exact .inl h
 . exact .inr ⟨h1, f, h2, Blk.only h3 ho (hf f h4 h3.lt _ h3), h4⟩
theorem AnsV.mono {w : World} {B B' : Nat} {v : Value} {op : ByteArray} {c : Nat} (h : AnsV w B v op c) (hB : B' <= B) : AnsV w B' v op c := by
 rcases h with h | ⟨h1, f, h2, h3, h4⟩
 . exact .inl h
 . exact .inr ⟨h1, f, h2, h3, by omega⟩
set_option maxHeartbeats 1000000 in
theorem zzm (t x : Nat) (τ : TxS) (s : DbS) (op : ByteArray) (w : World) (hT : TxAt w t τ) (hD : DbAt w x s) (hx : τ.db = x) (r : Option Addr) (hroot : τ.root = .pointer r) :
   Calls Tryz.prog 66 #[.pointer (some ⟨t, 0, none⟩), .string op] w fun e w' => ∃ v, e = .returned (.tuple #[.agg #[τ.root, .int .i64 τ.keys], v]) /\ AnsV w' w.heap.size v op (mayC s.poi τ.done false τ.write) /\ DbAt w' x s /\ TxAt w' t τ /\ Only (· = x) w w' := by
 have t0 : w.cell? ⟨t, 0, none⟩ = some (.pointer (some ⟨x, 0, none⟩)) := by rw [<- hx]; exact zab hT 0 rfl
 have t0' := fun o => zai o t0
 have htx : t ≠ x := Blk.ne_ hT hD (by decide)
 have hbA := (Below.refl w.heap.size w).alloc (Nat.le_refl _) (.cells #[.pointer none, .int .i64 0] 88)
 have HL := zaa (zef (hD.alloc (.cells #[.pointer none, .int .i64 0] 88)) rfl)
 have HT := zaa hT
 have HD := zaa hD
 have HXL := zaa hD.lt
 have HTL := zaa hT.lt
 clear hT hD
 go_enter_defers Tryz.func66, Tryz.ntmps66
 go_wp2_with (go_at_call 51; refine HL.out.mono ?_; rintro e w1 ⟨rfl, hb1, ho1, hs1⟩
              have hT1 := (HT.out.alloc (.cells #[.pointer none, .int .i64 0] 88)).only ho1 htx
              have k0 : w1.cell? ⟨t, 0, none⟩ = some (.pointer (some ⟨x, 0, none⟩)) := by rw [<- hx]; exact zab hT1 0 rfl
              have k1 : w1.cell? ⟨t, 1, none⟩ = some τ.root := zab hT1 1 rfl
              have k2 : w1.cell? ⟨t, 2, none⟩ = some (.int .i64 τ.keys) := zab hT1 2 rfl
              have hTr := (Blk.new w 88 #[.pointer none, .int .i64 0]).only ho1 (show ¬ w.heap.size = x by have := HXL.out; omega)
              rw [hroot] at k1
              have HM := zaa (zk9 t x τ s 1 op false w1.drew hT1.drew hb1.drew hx)
              have HT1 := zaa hT1
              have HB1 := zaa hb1
              have HO1 := zaa ho1
              have HTR := zaa hTr
              clear hT1 hb1 ho1 hTr)
 have htl1 : t < w1.heap.size := HT1.out.lt
 have htl0 : t < w.heap.size := HTL.out
 have hne0 : (⟨w.heap.size, 0, none⟩ : Addr).block ≠ t := by show w.heap.size ≠ t; omega
 go_region_held3 (fun w' => w'.cell? ⟨t, 1, none⟩ = some (.pointer r) /\ w'.cell? ⟨t, 2, none⟩ = some (.int .i64 τ.keys)) (first | go_keep | (exact ⟨(hk1.cell (p := ⟨t, 1, none⟩) htl1).trans k1, (hk1.cell (p := ⟨t, 2, none⟩) htl1).trans k2⟩) | (refine ⟨?_, ?_⟩ <;> (rw [World.cell?_setCell_other _ _ _ _ (by intro e; injection e; omega), World.cell?_setCell_other _ _ _ _ (by intro e; injection e; omega)]; assumption)))
  (first
   | (go_at_call 54
      ((with_reducible refine HM.out.mono ?_)
       rintro e w2 ⟨v, rfl, ha⟩
       have hk1 : Below w1.heap.size w1.drew w2 := ha.1
       have e1 : w2.cell? ⟨t, 1, none⟩ = some (.pointer r) := (hk1.cell (p := ⟨t, 1, none⟩) htl1).trans k1
       have e2 : w2.cell? ⟨t, 2, none⟩ = some (.int .i64 τ.keys) := (hk1.cell (p := ⟨t, 2, none⟩) htl1).trans k2
       have hTr2 := HTR.out.drew.below hk1 HTR.out.lt
       have g0 := zab hTr2 0 rfl
       have g1 := zab hTr2 1 rfl
       have z0 : w2.frozen? ⟨w.heap.size, 0, none⟩ = false := hTr2.frozen 0
       have z1 : w2.frozen? ⟨w.heap.size, 1, none⟩ = false := hTr2.frozen 1
       have HA := zaa ha
       have HTR2 := zaa hTr2
       clear ha hTr2)))
 go_wp2
 have hxl := HXL.out
 have hx1 : x < w1.heap.size := HB1.out.lt
 have hzz : w.heap.size < w1.heap.size := HTR.out.lt
 have hW : ∃ W, W = (w2.setCell ⟨w.heap.size, 0, none⟩ (.pointer r)).setCell ⟨w.heap.size, 1, none⟩ (.int .i64 τ.keys) := ⟨_, rfl⟩
 obtain ⟨W, hW⟩ := hW
 have hoW : Only (· = w.heap.size) w2 W := by rw [hW]; exact (Only.set1 _ _ _ _).set2 _ _
 have hTrW : Blk W w.heap.size 88 #[.pointer r, .int .i64 τ.keys] := by rw [hW]; exact ((HTR2.out).set_ 0 _).set_ 1 _
 have hb2 := (HB1.out.drew.below hk1 hx1)
 have hbW := hb2.only hoW (show ¬ x = w.heap.size by omega)
 rw [<- hW]
 refine leaves_cons (f := 52) (args := #[.pointer (some ⟨x, 0, none⟩)]) (by simp) (by simp [go_sem]) ?_
 refine (zcf .returning hbW rfl).mono ?_
 rintro e u' w4 ⟨rfl, rfl, hb4, ho4, hs4⟩
 have hTr4 := hTrW.only ho4 (show ¬ w.heap.size = x by omega)
 have r0 := zab hTr4 0 rfl
 have r1 := zab hTr4 1 rfl
 have hT2 := HT1.out.drew.below hk1 htl1
 refine ⟨.tuple #[.agg #[.pointer r, .int .i64 τ.keys], v], by simp [results, Tryz.results66, go_sem, r0, r1], v, ?_, ?_, hb4, ?_, ?_⟩
 . rw [hroot]
 . have h1 := HA.out.v
   have h2 := h1.only hoW (fun f hf _ cs hb e => by have : w1.heap.size <= f := hf; omega)
   exact (h2.only ho4 (fun f hf _ cs hb e => by have : w1.heap.size <= f := hf; omega)).mono (by show w.heap.size <= w1.heap.size; omega)
 . exact (hT2.only hoW (by omega)).only ho4 htx
 . have h1 : Only (· = x) w w1 := ((Only.refl _ _).alloc _).trans HO1.out
   have h2 : Only (· = x) w1 w2 := (Only.refl _ _).drew.below (Below.mono hk1 (Nat.le_refl _))
   exact ((h1.trans h2).trans' hoW (fun y hy e => by omega)).trans ho4
def DbS.ended (s : DbS) (wr : Bool) : DbS := { s with writer := if wr then .pointer none else s.writer }
def TxS.over (τ : TxS) : TxS := { τ with done := true }
theorem zic {w W : World} {y : Nat} {ks : List Nat} (h : ∀ k ∈ ks, TxB w k) (ho : Only (· = y) w W) (hy : TxB W y \/ ¬ TxB w y) : ∀ k ∈ ks, TxB W k := by
 intro k hk
 obtain ⟨cs, hb⟩ := h k hk
 by_cases e : k = y
 . subst e
   rcases hy with hy | hy
   . exact hy
   . exact absurd ⟨cs, hb⟩ hy
 . exact ⟨cs, hb.only ho e⟩
theorem zsx {w : World} {y : Nat} {T : TypeId} {cs : Array Value} (h : Blk w y T cs) (hT : 94 ≠ T) : ¬ TxB w y := fun ⟨_, hb⟩ => Blk.ne_ hb h hT rfl
set_option maxHeartbeats 1000000 in
theorem zsy (t x : Nat) (τ : TxS) (s : DbS) (l : Int) (ks : List Nat) (w : World) (hT : TxAt w t τ) (hD : Blk w x 91 (zb8 s l)) (hx : τ.db = x) (hr : RdAt w s.rd ks) (hk : ∀ k ∈ ks, TxB w k) :
   Calls Tryz.prog 59 #[.pointer (some ⟨t, 0, none⟩)] w fun e w' => e = .returned (.tuple #[]) /\ TxAt w' t τ.over /\ Blk w' x 91 (zb8 (s.ended τ.write) l) /\ RdAt w' s.rd (ks.erase t) /\ Only (fun y => y = t \/ y = x \/ y = s.rd) w w' := by
 obtain ⟨db, root, keys, write, done, stamp⟩ := τ
 obtain ⟨dk, root', keys', writer, rd, poi⟩ := s
 subst hx
 simp only at hr
 have htx : t ≠ db := Blk.ne_ hT hD (by decide)
 have hrt : rd ≠ t := hr.ne_blk hT
 have hrx : rd ≠ db := hr.ne_blk hD
 have t0 : w.cell? ⟨t, 0, none⟩ = some (.pointer (some ⟨db, 0, none⟩)) := zab hT 0 rfl
 have t3 : w.cell? ⟨t, 3, none⟩ = some (.bool write) := zab hT 3 rfl
 have t4 : w.cell? ⟨t, 4, none⟩ = some (.bool done) := zab hT 4 rfl
 have z4 : w.frozen? ⟨t, 4, none⟩ = false := hT.frozen 4
 have d5 : w.cell? ⟨db, 5, none⟩ = some writer := zab hD 5 rfl
 have d6 : w.cell? ⟨db, 6, none⟩ = some (.map (some rd)) := zab hD 6 rfl
 have z5 : w.frozen? ⟨db, 5, none⟩ = false := hD.frozen 5
 cases write with
 | false =>
   obtain ⟨W, hW⟩ : ∃ W, W = w.setCell ⟨t, 4, none⟩ (.bool true) := ⟨_, rfl⟩
   have hoW : Only (· = t) w W := by rw [hW]; exact Only.set1 _ _ _ _
   have hTW : TxAt W t ⟨db, root, keys, false, true, stamp⟩ := by rw [hW]; exact Blk.set_ hT 4 _
   obtain ⟨w3, hrun, hr3, ho3, hs3⟩ := zsv (w := W) (x := t) (hr.only hoW hrt) (zic hk hoW (.inl ⟨_, hTW⟩)) ⟨_, hTW⟩ 0
   unfold pk at hrun
   rw [hW] at hrun
   have HR3 := zaa hr3
   have HT3 := zaa (Blk.only hTW ho3 (fun e : t = rd => hrt e.symm))
   have HD3 := zaa ((hD.only hoW (fun e => htx e.symm)).only ho3 (fun e => hrx e.symm))
   have HO := zaa (Only.trans (fp := fun y => y = t \/ y = db \/ y = rd) (hoW.mono fun _ _ h => .inl h) (ho3.mono fun _ _ h => .inr (.inr h)))
   clear hr hk hT hD hoW hTW hr3 ho3 hs3 hW
   go_enter Tryz.func59, Tryz.ntmps59
   go_wp2
   go_end0
   exact ⟨rfl, HT3.out, HD3.out, HR3.out, HO.out⟩
 | true =>
   obtain ⟨W1, hW1⟩ : ∃ W, W = w.setCell ⟨t, 4, none⟩ (.bool true) := ⟨_, rfl⟩
   have hoW1 : Only (· = t) w W1 := by rw [hW1]; exact Only.set1 _ _ _ _
   have hTW1 : TxAt W1 t ⟨db, root, keys, true, true, stamp⟩ := by rw [hW1]; exact Blk.set_ hT 4 _
   have hDW1 := hD.only hoW1 (fun e => htx e.symm)
   obtain ⟨W, hW⟩ : ∃ W, W = W1.setCell ⟨db, 5, none⟩ (.pointer none) := ⟨_, rfl⟩
   have hoW : Only (· = db) W1 W := by rw [hW]; exact Only.set1 _ _ _ _
   have hTW : TxAt W t ⟨db, root, keys, true, true, stamp⟩ := Blk.only hTW1 hoW htx
   have hDW : Blk W db 91 (zb8 (DbS.ended ⟨dk, root', keys', writer, rd, poi⟩ true) l) := by rw [hW]; exact hDW1.set_ 5 _
   obtain ⟨w3, hrun, hr3, ho3, hs3⟩ := zsv (w := W) (x := t) ((hr.only hoW1 hrt).only hoW hrx) (zic (zic hk hoW1 (.inl ⟨_, hTW1⟩)) hoW (.inr (zsx hDW1 (by decide)))) ⟨_, hTW⟩ 0
   unfold pk at hrun
   rw [hW, hW1] at hrun
   have HR3 := zaa hr3
   have HT3 := zaa (Blk.only hTW ho3 (fun e : t = rd => hrt e.symm))
   have HD3 := zaa (hDW.only ho3 (fun e => hrx e.symm))
   have HO := zaa (Only.trans (fp := fun y => y = t \/ y = db \/ y = rd) ((hoW1.mono fun _ _ h => .inl h).trans (hoW.mono fun _ _ h => .inr (.inl h))) (ho3.mono fun _ _ h => .inr (.inr h)))
   clear hr hk hT hD hoW hTW hr3 ho3 hs3 hW hW1 hDW hDW1 hTW1 hoW1
   go_enter Tryz.func59, Tryz.ntmps59
   go_wp2
   go_end0
   exact ⟨rfl, HT3.out, HD3.out, HR3.out, HO.out⟩
set_option maxHeartbeats 1000000 in
theorem zv3 (t x : Nat) (τ : TxS) (s : DbS) (ks : List Nat) (w : World) (hT : TxAt w t τ) (hD : DbAt w x s) (hx : τ.db = x) (hr : RdAt w s.rd ks) (hk : ∀ k ∈ ks, TxB w k) (hok : mayC s.poi τ.done false τ.write = 0) :
   Calls Tryz.prog 27 #[.pointer (some ⟨t, 0, none⟩)] w fun e w' => e = .returned .nilIface /\ TxAt w' t τ.over /\ DbAt w' x (s.ended τ.write) /\ RdAt w' s.rd (ks.erase t) /\ Only (fun y => y = t \/ y = x \/ y = s.rd) w w' := by
 have t0 : w.cell? ⟨t, 0, none⟩ = some (.pointer (some ⟨x, 0, none⟩)) := by rw [<- hx]; exact zab hT 0 rfl
 have htx : t ≠ x := Blk.ne_ hT hD (by decide)
 have hrt : s.rd ≠ t := hr.ne_blk hT
 have hrx : s.rd ≠ x := hr.ne_blk hD
 have HL := zaa (zef hD rfl)
 have HT := zaa hT
 have HR := zaa hr
 have HK := zaa (fun W (ho : Only (· = x) w W) => zic hk ho (.inr (zsx hD (by decide))))
 have HOK := zaa hok
 clear hT hD hr hk hok
 go_enter_defers Tryz.func27, Tryz.ntmps27
 go_wp2_with (first
  | (go_at_call 51; refine HL.out.mono ?_; rintro e w1 ⟨rfl, hb1, ho1, hs1⟩
     have hT1 := HT.out.only ho1 htx
     have k0 : w1.cell? ⟨t, 0, none⟩ = some (.pointer (some ⟨x, 0, none⟩)) := by rw [<- hx]; exact zab hT1 0 rfl
     have HM := zaa (zk9 t x τ s 1 ⟨#[97, 98, 111, 114, 116]⟩ false w1 hT1 hb1 hx)
     have HE := zaa (zsy t x τ s 1 ks w1 hT1 hb1 hx (HR.out.only ho1 hrx) (HK.out _ ho1))
     rw [HOK.out] at HM
     have HO1 := zaa ho1
     clear hT1 hb1 ho1 hs1)
  | (go_at_call 54; refine HM.out.mono ?_; rintro e w' ⟨v, rfl, ha⟩
     obtain ⟨rfl, rfl⟩ : v = .nilIface /\ w1 = w' := by
      rcases ha.2 with h | h
      . exact ⟨h.2.1, h.2.2⟩
      . exact absurd rfl h.1
     clear ha)
  | (go_at_call 59; refine HE.out.mono ?_; rintro e w2 ⟨rfl, hT2, hD2, hR2, ho2⟩))
 refine leaves_cons (f := 52) (args := #[.pointer (some ⟨x, 0, none⟩)]) (by simp) (by simp [go_sem]) ?_
 refine (zcf .returning hD2 rfl).mono ?_
 rintro e u' w4 ⟨rfl, rfl, hb4, ho4, hs4⟩
 refine ⟨_, results_tmp rfl _ _ _, rfl, Blk.only hT2 ho4 htx, hb4, hR2.only ho4 hrx, ?_⟩
 exact Only.trans ((HO1.out.mono fun _ _ h => .inr (.inl h)).trans ho2) (ho4.mono fun _ _ h => .inr (.inl h))
end Go.Proofs.YtemondlgcmpbbaaGreatDoor
