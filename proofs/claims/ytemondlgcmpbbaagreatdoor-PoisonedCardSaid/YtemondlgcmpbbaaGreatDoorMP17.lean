/- Wq Wr Fm Ws Fn: merged. -/
import Derived.Test.YtemondlgcmpbbaaGreatDoorMP16
import Derived.Test.YtemondlgcmpbbaaGreatDoorMP01
import Derived.Test.YtemondlgcmpbbaaGreatDoorMP02
import Derived.Test.YtemondlgcmpbbaaGreatDoorMP10
import Derived.Deep.LoopGhost
import Derived.BigQuiet
namespace Go.Proofs.YtemondlgcmpbbaaGreatDoor
open Go.RowKit
set_option maxRecDepth 100000
theorem zps {h : Nat} {key : Str} {pre post : List (Str × Tr h)} {k : Str} {c : Tr h} (f : Tr h -> Tr h) (hb : below key (pre ++ (k, c) :: post) = pre.length) : zah h key (pre ++ (k, c) :: post) f = zax h pre k (f c) post := by
 unfold zah
 rw [hb, List.drop_left, List.take_left]
theorem zl8 {dp dq : List (List Nat)} {dc dt : List Nat} {B : Nat} (h : (dp ++ dc :: dq).flatten.Nodup) (hB : ∀ x ∈ (dp ++ dc :: dq).flatten, x < B) (ht : dt.Nodup) (hs : ∀ x ∈ dt, x ∈ dc \/ B <= x) : (dp ++ dt :: dq).flatten.Nodup /\ ∀ x ∈ (dp ++ dt :: dq).flatten, x ∈ (dp ++ dc :: dq).flatten \/ B <= x := by
 simp only [List.flatten_append, List.flatten_cons, List.nodup_append, List.mem_append] at h hB ⊢
 obtain ⟨h1, ⟨h2, h3, h4⟩, h5⟩ := h
 refine ⟨⟨h1, ⟨ht, h3, fun a ha b hb e => ?_⟩, fun a ha b hb e => ?_⟩, fun x hx => ?_⟩
 . rcases hs a ha with k | k
   . exact h4 a k b hb e
   . have := hB b (.inr (.inr hb)); omega
 . rcases hb with hb | hb
   . rcases hs b hb with k | k
     . exact h5 a ha b (.inl k) e
     . have := hB a (.inl ha); omega
   . exact h5 a ha b (.inr hb) e
 . rcases hx with hx | hx | hx
   . exact .inl (.inl hx)
   . rcases hs x hx with k | k
     . exact .inl (.inr (.inl k))
     . exact .inr k
   . exact .inl (.inr (.inr hx))
theorem zpt {ok : Nat -> Prop} {w w1 : World} {h b' : Nat} {es : List (Str × Tr h)} {bs : List Nat} {dss : List (List Nat)} {A1 A2 : Option Addr} {c1 c2 : Nat} (hk : RepL (FRep ok w h) es bs dss) (hb1 : Blk w1 b' 137 #[.int .i64 0, .int .u32 0, .bool true, .slice A1 0 c1, .slice A2 es.length c2])
   (ho1 : w1.ownsRow w.heap.size 68 2 (.slice A1 0 c1) 0 []) (ho2 : w1.ownsRow w.heap.size 139 2 (.slice A2 es.length c2) es.length (kcells es bs)) (hbb : w.heap.size <= b') (hbl : Below w.heap.size w w1) :
   Opn (up ok w.heap.size) w.heap.size w1 h b' es bs dss A1 c1 A2 es.length c2 := by
 refine ⟨rfl, hb1, ho1, ho2, hbb, hk.mono fun _ _ _ hk => hk.lt.move (Agree.of_below hbl fun x hx => hx.2) fun x hx => ⟨.inl hx.1, by have := hx.2; omega, fun a ha e => ?_⟩⟩
 subst ha
 have := zpq ho2 (g := a.block) rfl
 have := hx.2
 omega
theorem zpu {ok : Nat -> Prop} {w w3 : World} {h b' n c1 c2 : Nat} {es : List (Str × Tr h)} {bs : List Nat} {dss : List (List Nat)} {A1 A2 : Option Addr} {B : Nat} (o : Opn (up ok B) w.heap.size w3 h b' es bs dss A1 c1 A2 n c2) (hB : B <= w.heap.size) : FRep (up ok B) w3 (h + 1) (fresh es : Nd (Tr h)) b' (dss.flatten ++ [b']) := 
 FRep.mk_branch (base := w.heap.size) o.len o.node o.ps o.ks o.hb (fun x hx _ => .inr (by omega)) (o.kids.mono fun _ _ _ hk => hk.more fun _ hx => hx.1)
section
variable {ok : Nat -> Prop} {h : Nat} {t : Tr (h + 1)} {pre post : List (Str × Tr h)} {k : Str} {c : Tr h}
set_option maxHeartbeats 1600000 in
theorem zrs (key : Str) (b : Nat) (ds : List Nat) (w : World) (hf : FRep ok w (h + 1) t b ds) (hnd : ds.Nodup) (hes : Nd.es t = pre ++ (k, c) :: post) (hbl : below key (Nd.es t) = pre.length) (hn : (Nd.es t).length <= 400)
   (hkid : ∀ e ∈ pre ++ (k, Tr.drop h c key) :: post, ze8 h e.2 /\ e.1.size <= 15)
   (IH : ∀ (ok' : Nat -> Prop) (bc : Nat) (dc : List Nat) (w' : World), FRep ok' w' h c bc dc -> dc.Nodup -> Calls Tryz.prog 80 #[P bc, .string key] w' (ze9 ok' w' h (Tr.drop h c key) dc)) :
   Calls Tryz.prog 80 #[P b, .string key] w (ze9 ok w (h + 1) (Tr.drop (h + 1) t key) ds) := by
 obtain ⟨A1, c1, A2, c2, bs, dss, hnode, hb, hro, hk, hds⟩ := hf
 have hbs := hk.len.1
 have HC := zaa (zgt b (Nd.blk t) (Nd.gen t) (Nd.dirty t) A1 0 c1 [] A2 (Nd.es t).length c2 (kcells (Nd.es t) bs) w hnode (fun u hu => by cases hu) (zcc _ _) (by omega) (by omega))
 have hdr : Tr.drop (h + 1) t key = fresh (zax h pre k (Tr.drop h c key) post) := by
  show fresh (zah h key (Nd.es t) fun c => Tr.drop h c key) = _
  rw [hes] at hbl ⊢
  rw [zps _ hbl]
 rw [hdr]
 have hnd' : dss.flatten.Nodup := by rw [hds] at hnd; exact (List.nodup_append.1 hnd).1
 have hsub : ∀ x ∈ dss.flatten, x ∈ ds := fun x hx => by rw [hds]; exact List.mem_append_left _ hx
 have hblt := hb
 obtain ⟨es, hE⟩ : ∃ es, es = Nd.es t := ⟨_, rfl⟩
 rw [<- hE] at HC hes hbl hn hk hbs
 obtain ⟨i, hi⟩ : ∃ i, i = pre.length := ⟨_, rfl⟩
 have hil : i < es.length := by rw [hes, hi]; simp
 rw [<- hi] at hbl
 have HK := zaa hk
 have HIH := zaa IH
 have HKID := zaa hkid
 have HND := zaa hnd'
 have HSUB := zaa hsub
 have HES := zaa hes
 have HI := zaa hi
 have HBS := zaa hbs
 have HBL := zaa hbl
 clear hnode hro hds hb hk IH hkid hnd hnd' hsub hes hi hbs hbl hdr hE
 have k0 : (0 : Int) <= (i : Int) := by omega
 have k2 : (i : Int) < (es.length : Int) := by omega
 unfold P
 go_enter Tryz.func80, Tryz.ntmps80
 go_upto_region 7 with (first
  | (go_at_call 118; go_loud (
     refine HC.out.mono ?_; rintro e w1 ⟨b', v1, v2, rfl, hb1, ho1, ho2, hbb, hbl⟩
     obtain ⟨A1', c1', rfl, hc1, ho1⟩ := zbk ho1
     obtain ⟨A2', c2', rfl, hc2, ho2⟩ := zbk ho2
     have o1 := zpt HK.out hb1 ho1 ho2 hbb hbl
     have LEAF := zaa (zec b' 0 0 es.length c2' true _ A2' w1 hb1 (by omega) (Nat.le_trans hn (by omega)))
     have BELOW := zaa (zhi es bs key b' 0 0 c2' true _ A2' w1 hb1 (SlC.of_own ho2) HBS.out (by omega) (Nat.le_trans hn (by omega)))
     obtain ⟨g, cur, rfl, hbg, hgb, hgx, hgs, hgn, hgm⟩ := zb0 ho2 (by omega)
     rw [HBL.out] at BELOW
     have O1 := zaa o1
     have HBW := zaa hbl
     have HGB := zaa hgb
     have HGW := zaa hbg
     have e3 : w1.cell? ⟨b', 4, none⟩ = some (.slice (some ⟨g, 0, none⟩) es.length c2') := by rw [hb1.cell]; rfl
     clear hb1 ho1 ho2 hbl o1 hgb))
  | (go_at_call 81; go_loud (refine LEAF.out.mono ?_; rintro e w' ⟨rfl, rfl⟩))
  | (go_at_call 82; go_loud (refine BELOW.out.mono ?_; rintro e w' ⟨rfl, rfl⟩)))
 have o1 := O1.out
 have o1n := o1.len
 rw [HES.out] at o1
 obtain ⟨bp, bc, bq, dp, dc, dq, hbs', hds', l1, l2, r1, r2, r3⟩ := RepL.cut o1.kids
 rw [hbs'] at o1
 have hz1 := (o1.cells l1).2
 rw [<- HI.out] at hz1
 have g1 : w1.cell? ⟨g, i * 2 + 1, none⟩ = some (P bc) := hz1
 have hgl := HGB.out.lt
 have hbl := O1.out.node.lt
 have hndc : dc.Nodup := by
  have := HND.out
  rw [hds'] at this
  simp only [List.flatten_append, List.flatten_cons, List.nodup_append] at this
  exact this.2.1.1
 have CALL := zaa (HIH.out (fp (up ok w.heap.size) b' (some ⟨g, 0, none⟩)) bc dc w1.drew (r2.below (Below.refl _ _).drew (fun _ hx => hx)) hndc)
 have OO := zaa o1
 have HBS' := zaa hbs'
 have HDS' := zaa hds'
 clear hz1 hbs' hds' r1 r2 r3 o1 hndc
 unfold P at g1 CALL
 refine wp_region_held_drew (S := fun w' => w'.cell? ⟨b', 4, none⟩ = some (.slice (some ⟨g, 0, none⟩) es.length c2')) (by kernel_rfl) e3 ?_
 intro hS0
 refine zac 0 (.pointer (some ⟨b', 0, none⟩)) (some 34) rfl rfl (.inl ⟨rfl, fun w' hSw => by go_simp⟩) hS0 ?_
 simp only [Act.put, n1, n2, n3]
 refine zac 1 (.pointer (some ⟨b', 0, none⟩)) (some 35) rfl rfl (.inl ⟨rfl, fun w' hSw => by clear hSw; go_simp⟩) hS0 ?_
 simp only [Act.put, n1, n2, n3]
 refine zac 2 (.pointer (some ⟨b', 4, none⟩)) (some 36) rfl rfl (.inl ⟨rfl, fun w' hSw => by clear hSw; go_simp⟩) hS0 ?_
 simp only [Act.put, n1, n2, n3]
 refine zac 3 (.slice (some ⟨g, 0, none⟩) es.length c2') (some 37) rfl rfl (.inl ⟨rfl, fun w' hSw => by go_simp⟩) hS0 ?_
 simp only [Act.put, n1, n2, n3]
 refine zac 4 (.int .i64 i) (some 38) rfl rfl (.inl ⟨rfl, fun w' hSw => by go_simp⟩) hS0 ?_
 simp only [Act.put, n1, n2, n3]
 refine zac 5 (.pointer (some ⟨b', 0, none⟩)) (some 39) rfl rfl (.inl ⟨rfl, fun w' hSw => by go_simp⟩) hS0 ?_
 simp only [Act.put, n1, n2, n3]
 refine zac 6 (.pointer (some ⟨b', 0, none⟩)) (some 40) rfl rfl (.inl ⟨rfl, fun w' hSw => by clear hSw; go_simp⟩) hS0 ?_
 simp only [Act.put, n1, n2, n3]
 refine zac 7 (.pointer (some ⟨b', 4, none⟩)) (some 41) rfl rfl (.inl ⟨rfl, fun w' hSw => by clear hSw; go_simp⟩) hS0 ?_
 simp only [Act.put, n1, n2, n3]
 refine zac 8 (.slice (some ⟨g, 0, none⟩) es.length c2') (some 42) rfl rfl (.inl ⟨rfl, fun w' hSw => by go_simp⟩) hS0 ?_
 simp only [Act.put, n1, n2, n3]
 refine zac 9 (.int .i64 i) (some 43) rfl rfl (.inl ⟨rfl, fun w' hSw => by go_simp⟩) hS0 ?_
 simp only [Act.put, n1, n2, n3]
 refine zac 10 (.pointer (some ⟨g, i * 2, none⟩)) (some 44) rfl rfl (.inl ⟨rfl, fun w' hSw => by clear hSw; go_simp⟩) hS0 ?_
 simp only [Act.put, n1, n2, n3]
 refine zac 11 (.pointer (some ⟨g, i * 2 + 1, none⟩)) (some 45) rfl rfl (.inl ⟨rfl, fun w' hSw => by clear hSw; go_simp⟩) hS0 ?_
 simp only [Act.put, n1, n2, n3]
 refine zac 13 (.string key) (some 47) rfl rfl (.inl ⟨rfl, fun w' hSw => by go_simp⟩) hS0 ?_
 simp only [Act.put, n1, n2, n3]
 refine zez (i := 12) (v := (.pointer (some ⟨bc, 0, none⟩))) (w' := w1.drew) (some 46) (by kernel_rfl) rfl rfl rfl (by clear hS0; go_simp) hS0 ?_
 simp only [Act.put, List.setIfInBounds_toArray, List.set_cons_zero, List.set_cons_succ]
 refine zc9 (i := 14) (f := 80) (some 48) (by kernel_rfl) rfl rfl rfl (by first | (go_simp; done) | (go_simp; rfl)) (CALL.out) ?_
 rintro _ w2 ⟨bt, dt, rfl, ht, hdn, hdd, hbt, hb20⟩
 refine ⟨(.pointer (some ⟨bt, 0, none⟩)), rfl, ((((Below.refl _ _).drew.trans hb20 : Below w1.heap.size w1 w2)).cell hbl).trans e3, ?_⟩
 simp only [Act.put, n1, n2, n3]
 have hb2 : Below w1.heap.size w1 w2 := (Below.refl _ _).drew.trans hb20
 have hS2 := (hb2.cell hbl).trans e3
 refine zac 15 (.pointer (some ⟨g, i * 2, none⟩)) (some 49) rfl rfl (.inl ⟨rfl, fun w' hSw => by clear hSw; go_simp⟩) hS2 ?_
 simp only [Act.put, n1, n2, n3]
 refine zac 16 (.pointer (some ⟨g, i * 2 + 1, none⟩)) (some 50) rfl rfl (.inl ⟨rfl, fun w' hSw => by clear hSw; go_simp⟩) hS2 ?_
 simp only [Act.put, n1, n2, n3]
 have hg2 := HGB.out.below hb2 hgl
 have z1 : w2.frozen? ⟨g, i * 2 + 1, none⟩ = false := hg2.frozen _
 have z2 : w2.cell? ⟨g, i * 2 + 1, none⟩ = some (.pointer (some ⟨bc, 0, none⟩)) := (hb2.cell hgl).trans g1
 refine zaw (i := 17) (by kernel_rfl) rfl rfl ?_
 go_simp
 have hgbb := O1.out.hb
 have hb2s := hb2.size
 have hws := HBW.out.size
 have hgw := HGW.out
 have hjup : ∀ x, up (fp (up ok w.heap.size) b' (some ⟨g, 0, none⟩)) w1.drew.heap.size x -> fp (up ok w.heap.size) b' (some ⟨g, 0, none⟩) x := by
  rintro x (hx | hx)
  . exact hx
  . have h2 : w1.heap.size <= x := hx
    exact ⟨.inr (by omega), by omega, fun a ha => by injection ha with ha; subst ha; show x ≠ g; omega⟩
 have o2 := OO.out.below hb2
 have o3 := o2.setKid (ht.more hjup)
 rw [zee _ _ _ _ _ l1, HDS'.out, zee _ _ _ _ _ l2, <- HI.out] at o3
 have hlt1 : ∀ x ∈ dss.flatten, x < w.heap.size := fun x hx => (HK.out.ds (fun _ _ _ hk => FRep.ds hk) x hx).2
 have hnds := zl8 (dp := dp) (dc := dc) (dt := dt ++ [bt]) (dq := dq) (B := w1.heap.size) (by rw [<- HDS'.out]; exact HND.out) (by rw [<- HDS'.out]; exact fun x hx => by have := hlt1 x hx; omega) hdn (by
  intro x hx
  rcases List.mem_append.1 hx with hx | hx
  . exact hdd x hx
  . right; rw [List.mem_singleton.1 hx]; exact hbt)
 rw [<- HDS'.out] at hnds
 have hbw3 : Below w.heap.size w (w2.setCell ⟨g, i * 2 + 1, none⟩ (P bt)) := (HBW.out.trans (hb2.mono hws)).setCell hgw _
 have s3 : (w2.setCell ⟨g, i * 2 + 1, none⟩ (P bt)).cell? ⟨b', 4, none⟩ = some (.slice (some ⟨g, 0, none⟩) es.length c2') := by rw [o3.node.cell, HES.out]; rfl
 obtain ⟨W3, hW3⟩ : ∃ W3, W3 = w2.setCell ⟨g, i * 2 + 1, none⟩ (P bt) := ⟨_, rfl⟩
 have hw3s : W3.heap.size = w2.heap.size := by rw [hW3]; simp [World.setCell]
 rw [<- hW3] at o3 hbw3 s3
 unfold P at hW3
 rw [<- hW3]
 have MEND := zaa (zpp (pk := up ok w.heap.size) (base := w.heap.size) (fun x hx => .inr hx) h b' pre post k (Tr.drop h c key) _ _ A1' (some ⟨g, 0, none⟩) c1' _ c2' W3 o3 (by rw [<- HES.out]; exact hn) HKID.out (by omega) hnds.1)
 rw [<- HI.out] at MEND
 have HBW3 := zaa hbw3
 have HNDS := zaa hnds.2
 clear hW3 o2 o3 hnds hdn hdd ht hb2 hb20 hS2 z1 z2 hg2 hbw3
 refine wpAnyH_done (by kernel_rfl) ?_ _
 go_wp2_with (go_at_call 120; go_loud (
  refine MEND.out.mono ?_
  rintro e w4 ⟨rfl, bs4, dss4, A4, n4, c4, o4, hb4, hn4, hd4⟩))
 go_ret
 have hb4s := hb4.size
 have hnd0 := HNDS.out
 refine ⟨b', dss4.flatten, rfl, zpu o4 (Nat.le_refl _), ?_, ?_, hgbb, HBW3.out.trans hb4⟩
 . refine List.nodup_append.2 ⟨hn4, by simp, fun a ha x hx e => ?_⟩
   rw [List.mem_singleton.1 hx] at e
   subst e
   rcases hd4 a ha with k | k
   . rcases hnd0 a k with k | k
     . have := hlt1 a k; omega
     . omega
   . omega
 . intro x hx
   rcases hd4 x hx with k | k
   . rcases hnd0 x k with k | k
     . exact .inl (HSUB.out x k)
     . exact .inr (by omega)
   . exact .inr (by omega)
set_option maxHeartbeats 1600000 in
theorem zud (key v : Str) (b : Nat) (ds : List Nat) (w : World) (hf : FRep ok w (h + 1) t b ds) (hnd : ds.Nodup) (hes : Nd.es t = pre ++ (k, c) :: post) (hbl : below key (Nd.es t) = pre.length) (hn : (Nd.es t).length <= 400)
   (hkid : ∀ e ∈ pre ++ (k, Tr.put h c key v) :: post, ze8 h e.2 /\ e.1.size <= 15)
   (IH : ∀ (ok' : Nat -> Prop) (bc : Nat) (dc : List Nat) (w' : World), FRep ok' w' h c bc dc -> dc.Nodup -> Calls Tryz.prog 84 #[P bc, .agg #[.string key, .string v]] w' (ze9 ok' w' h (Tr.put h c key v) dc)) :
   Calls Tryz.prog 84 #[P b, .agg #[.string key, .string v]] w (ze9 ok w (h + 1) (Tr.put (h + 1) t key v) ds) := by
 have hbl0 : Below w.heap.size w (w.alloc (.cells #[.string key, .string v] 68)) := (Below.refl _ _).alloc (Nat.le_refl _) _
 have hf1 := hf.below hbl0 (fun _ h => h)
 have hbx : Blk (w.alloc (.cells #[.string key, .string v] 68)) w.heap.size 68 #[.string key, .string v] := Blk.new _ _ _
 obtain ⟨w0, hw0⟩ : ∃ w0, w0 = w.alloc (.cells #[.string key, .string v] 68) := ⟨_, rfl⟩
 rw [<- hw0] at hbl0 hf1 hbx
 have HBX := zaa hbx
 have HB0 := zaa hbl0
 have HW0 := zaa hw0
 clear hbx hbl0 hw0 hf
 obtain ⟨A1, c1, A2, c2, bs, dss, hnode, hb, hro, hk, hds⟩ := hf1
 have hbs := hk.len.1
 have HC := zaa (zgt b (Nd.blk t) (Nd.gen t) (Nd.dirty t) A1 0 c1 [] A2 (Nd.es t).length c2 (kcells (Nd.es t) bs) w0 hnode (fun u hu => by cases hu) (zcc _ _) (by omega) (by omega))
 have hdr : Tr.put (h + 1) t key v = fresh (zax h pre k (Tr.put h c key v) post) := by
  show fresh (zah h key (Nd.es t) fun c => Tr.put h c key v) = _
  rw [hes] at hbl ⊢
  rw [zps _ hbl]
 rw [hdr]
 have hnd' : dss.flatten.Nodup := by rw [hds] at hnd; exact (List.nodup_append.1 hnd).1
 have hsub : ∀ x ∈ dss.flatten, x ∈ ds := fun x hx => by rw [hds]; exact List.mem_append_left _ hx
 have hblt := hb
 obtain ⟨es, hE⟩ : ∃ es, es = Nd.es t := ⟨_, rfl⟩
 rw [<- hE] at HC hes hbl hn hk hbs
 obtain ⟨i, hi⟩ : ∃ i, i = pre.length := ⟨_, rfl⟩
 have hil : i < es.length := by rw [hes, hi]; simp
 rw [<- hi] at hbl
 have HK := zaa hk
 have HIH := zaa IH
 have HKID := zaa hkid
 have HND := zaa hnd'
 have HSUB := zaa hsub
 have HES := zaa hes
 have HI := zaa hi
 have HBS := zaa hbs
 have HBL := zaa hbl
 clear hnode hro hds hb hk IH hkid hnd hnd' hsub hes hi hbs hbl hdr hE
 have k0 : (0 : Int) <= (i : Int) := by omega
 have k2 : (i : Int) < (es.length : Int) := by omega
 unfold P
 go_enter Tryz.func84, Tryz.ntmps84
 go_upto_region 9 with (first
  | (go_at_call 118; go_loud (
     rw [<- HW0.out]
     refine HC.out.mono ?_; rintro e w1 ⟨b', v1, v2, rfl, hb1, ho1, ho2, hbb, hbl⟩
     obtain ⟨A1', c1', rfl, hc1, ho1⟩ := zbk ho1
     obtain ⟨A2', c2', rfl, hc2, ho2⟩ := zbk ho2
     have o1 := zpt HK.out hb1 ho1 ho2 hbb hbl
     have LEAF := zaa (zec b' 0 0 es.length c2' true _ A2' w1 hb1 (by omega) (Nat.le_trans hn (by omega)))
     have BELOW := zaa (zhi es bs key b' 0 0 c2' true _ A2' w1 hb1 (SlC.of_own ho2) HBS.out (by omega) (Nat.le_trans hn (by omega)))
     obtain ⟨g, cur, rfl, hbg, hgb, hgx, hgs, hgn, hgm⟩ := zb0 ho2 (by omega)
     rw [HBL.out] at BELOW
     have hbx1 := HBX.out.below hbl HBX.out.lt
     have y1 : w1.cell? ⟨w.heap.size, 0, none⟩ = some (.string key) := by rw [hbx1.cell]; rfl
     have y2 : w1.cell? ⟨w.heap.size, 1, none⟩ = some (.string v) := by rw [hbx1.cell]; rfl
     have O1 := zaa o1
     have HBW := zaa hbl
     have HGB := zaa hgb
     have HGW := zaa hbg
     have e3 : w1.cell? ⟨b', 4, none⟩ = some (.slice (some ⟨g, 0, none⟩) es.length c2') := by rw [hb1.cell]; rfl
     clear hb1 ho1 ho2 hbl o1 hgb))
  | (go_at_call 81; go_loud (refine LEAF.out.mono ?_; rintro e w' ⟨rfl, rfl⟩))
  | (go_at_call 82; go_loud (refine BELOW.out.mono ?_; rintro e w' ⟨rfl, rfl⟩)))
 have o1 := O1.out
 have o1n := o1.len
 rw [HES.out] at o1
 obtain ⟨bp, bc, bq, dp, dc, dq, hbs', hds', l1, l2, r1, r2, r3⟩ := RepL.cut o1.kids
 rw [hbs'] at o1
 have hz1 := (o1.cells l1).2
 rw [<- HI.out] at hz1
 have g1 : w1.cell? ⟨g, i * 2 + 1, none⟩ = some (P bc) := hz1
 have hgl := HGB.out.lt
 have hbl := O1.out.node.lt
 have hndc : dc.Nodup := by
  have := HND.out
  rw [hds'] at this
  simp only [List.flatten_append, List.flatten_cons, List.nodup_append] at this
  exact this.2.1.1
 have CALL := zaa (HIH.out (fp (up ok w0.heap.size) b' (some ⟨g, 0, none⟩)) bc dc w1.drew (r2.below (Below.refl _ _).drew (fun _ hx => hx)) hndc)
 have OO := zaa o1
 have HBS' := zaa hbs'
 have HDS' := zaa hds'
 clear hz1 hbs' hds' r1 r2 r3 o1 hndc
 unfold P at g1 CALL
 refine wp_region_held_drew (S := fun w' => w'.cell? ⟨b', 4, none⟩ = some (.slice (some ⟨g, 0, none⟩) es.length c2')) (by kernel_rfl) e3 ?_
 intro hS0
 refine zac 0 (.pointer (some ⟨b', 0, none⟩)) (some 44) rfl rfl (.inl ⟨rfl, fun w' hSw => by go_simp⟩) hS0 ?_
 simp only [Act.put, n1, n2, n3]
 refine zac 1 (.pointer (some ⟨b', 0, none⟩)) (some 45) rfl rfl (.inl ⟨rfl, fun w' hSw => by clear hSw; go_simp⟩) hS0 ?_
 simp only [Act.put, n1, n2, n3]
 refine zac 2 (.pointer (some ⟨b', 4, none⟩)) (some 46) rfl rfl (.inl ⟨rfl, fun w' hSw => by clear hSw; go_simp⟩) hS0 ?_
 simp only [Act.put, n1, n2, n3]
 refine zac 3 (.slice (some ⟨g, 0, none⟩) es.length c2') (some 47) rfl rfl (.inl ⟨rfl, fun w' hSw => by go_simp⟩) hS0 ?_
 simp only [Act.put, n1, n2, n3]
 refine zac 4 (.int .i64 i) (some 48) rfl rfl (.inl ⟨rfl, fun w' hSw => by go_simp⟩) hS0 ?_
 simp only [Act.put, n1, n2, n3]
 refine zac 5 (.pointer (some ⟨b', 0, none⟩)) (some 49) rfl rfl (.inl ⟨rfl, fun w' hSw => by go_simp⟩) hS0 ?_
 simp only [Act.put, n1, n2, n3]
 refine zac 6 (.pointer (some ⟨b', 0, none⟩)) (some 50) rfl rfl (.inl ⟨rfl, fun w' hSw => by clear hSw; go_simp⟩) hS0 ?_
 simp only [Act.put, n1, n2, n3]
 refine zac 7 (.pointer (some ⟨b', 4, none⟩)) (some 51) rfl rfl (.inl ⟨rfl, fun w' hSw => by clear hSw; go_simp⟩) hS0 ?_
 simp only [Act.put, n1, n2, n3]
 refine zac 8 (.slice (some ⟨g, 0, none⟩) es.length c2') (some 52) rfl rfl (.inl ⟨rfl, fun w' hSw => by go_simp⟩) hS0 ?_
 simp only [Act.put, n1, n2, n3]
 refine zac 9 (.int .i64 i) (some 53) rfl rfl (.inl ⟨rfl, fun w' hSw => by go_simp⟩) hS0 ?_
 simp only [Act.put, n1, n2, n3]
 refine zac 10 (.pointer (some ⟨g, i * 2, none⟩)) (some 54) rfl rfl (.inl ⟨rfl, fun w' hSw => by clear hSw; go_simp⟩) hS0 ?_
 simp only [Act.put, n1, n2, n3]
 refine zac 11 (.pointer (some ⟨g, i * 2 + 1, none⟩)) (some 55) rfl rfl (.inl ⟨rfl, fun w' hSw => by clear hSw; go_simp⟩) hS0 ?_
 simp only [Act.put, n1, n2, n3]
 refine zlk (i := 12) (j := 13) (vi := (.pointer (some ⟨bc, 0, none⟩))) (vj := (.agg #[.string key, .string v])) (w' := w1.drew) (some 56) (some 57) (by kernel_rfl) (by kernel_rfl) (by kernel_rfl) (by kernel_rfl) rfl rfl rfl rfl rfl rfl rfl rfl (by clear hS0; go_simp) (by clear hS0; go_simp) (by clear hS0; go_simp) (by clear hS0; go_simp) hS0 hS0 rfl ?_
 simp only [Act.put, List.setIfInBounds_toArray, List.set_cons_zero, List.set_cons_succ]
 refine zc9 (i := 14) (f := 84) (some 58) (by kernel_rfl) rfl rfl rfl (by first | (go_simp; done) | (go_simp; rfl)) (CALL.out) ?_
 rintro _ w2 ⟨bt, dt, rfl, ht, hdn, hdd, hbt, hb20⟩
 refine ⟨(.pointer (some ⟨bt, 0, none⟩)), rfl, ((((Below.refl _ _).drew.trans hb20 : Below w1.heap.size w1 w2)).cell hbl).trans e3, ?_⟩
 simp only [Act.put, n1, n2, n3]
 have hb2 : Below w1.heap.size w1 w2 := (Below.refl _ _).drew.trans hb20
 have hS2 := (hb2.cell hbl).trans e3
 refine zac 15 (.pointer (some ⟨g, i * 2, none⟩)) (some 59) rfl rfl (.inl ⟨rfl, fun w' hSw => by clear hSw; go_simp⟩) hS2 ?_
 simp only [Act.put, n1, n2, n3]
 refine zac 16 (.pointer (some ⟨g, i * 2 + 1, none⟩)) (some 60) rfl rfl (.inl ⟨rfl, fun w' hSw => by clear hSw; go_simp⟩) hS2 ?_
 simp only [Act.put, n1, n2, n3]
 have hg2 := HGB.out.below hb2 hgl
 have z1 : w2.frozen? ⟨g, i * 2 + 1, none⟩ = false := hg2.frozen _
 have z2 : w2.cell? ⟨g, i * 2 + 1, none⟩ = some (.pointer (some ⟨bc, 0, none⟩)) := (hb2.cell hgl).trans g1
 refine zaw (i := 17) (by kernel_rfl) rfl rfl ?_
 go_simp
 have hgbb := O1.out.hb
 have hb2s := hb2.size
 have hws := HBW.out.size
 have hgw := HGW.out
 have hjup : ∀ x, up (fp (up ok w0.heap.size) b' (some ⟨g, 0, none⟩)) w1.drew.heap.size x -> fp (up ok w0.heap.size) b' (some ⟨g, 0, none⟩) x := by
  rintro x (hx | hx)
  . exact hx
  . have h2 : w1.heap.size <= x := hx
    exact ⟨.inr (by omega), by omega, fun a ha => by injection ha with ha; subst ha; show x ≠ g; omega⟩
 have o2 := OO.out.below hb2
 have o3 := o2.setKid (ht.more hjup)
 rw [zee _ _ _ _ _ l1, HDS'.out, zee _ _ _ _ _ l2, <- HI.out] at o3
 have hlt1 : ∀ x ∈ dss.flatten, x < w0.heap.size := fun x hx => (HK.out.ds (fun _ _ _ hk => FRep.ds hk) x hx).2
 have hnds := zl8 (dp := dp) (dc := dc) (dt := dt ++ [bt]) (dq := dq) (B := w1.heap.size) (by rw [<- HDS'.out]; exact HND.out) (by rw [<- HDS'.out]; exact fun x hx => by have := hlt1 x hx; omega) hdn (by
  intro x hx
  rcases List.mem_append.1 hx with hx | hx
  . exact hdd x hx
  . right; rw [List.mem_singleton.1 hx]; exact hbt)
 rw [<- HDS'.out] at hnds
 have hbw3 : Below w0.heap.size w0 (w2.setCell ⟨g, i * 2 + 1, none⟩ (P bt)) := (HBW.out.trans (hb2.mono hws)).setCell hgw _
 have s3 : (w2.setCell ⟨g, i * 2 + 1, none⟩ (P bt)).cell? ⟨b', 4, none⟩ = some (.slice (some ⟨g, 0, none⟩) es.length c2') := by rw [o3.node.cell, HES.out]; rfl
 obtain ⟨W3, hW3⟩ : ∃ W3, W3 = w2.setCell ⟨g, i * 2 + 1, none⟩ (P bt) := ⟨_, rfl⟩
 have hw3s : W3.heap.size = w2.heap.size := by rw [hW3]; simp [World.setCell]
 rw [<- hW3] at o3 hbw3 s3
 unfold P at hW3
 rw [<- hW3]
 have MEND := zaa (zpp (pk := up ok w0.heap.size) (base := w0.heap.size) (fun x hx => .inr hx) h b' pre post k (Tr.put h c key v) _ _ A1' (some ⟨g, 0, none⟩) c1' _ c2' W3 o3 (by rw [<- HES.out]; exact hn) HKID.out (by omega) hnds.1)
 rw [<- HI.out] at MEND
 have HBW3 := zaa hbw3
 have HNDS := zaa hnds.2
 clear hW3 o2 o3 hnds hdn hdd ht hb2 hb20 hS2 z1 z2 hg2 hbw3
 refine wpAnyH_done (by kernel_rfl) ?_ _
 go_wp2_with (go_at_call 120; go_loud (
  refine MEND.out.mono ?_
  rintro e w4 ⟨rfl, bs4, dss4, A4, n4, c4, o4, hb4, hn4, hd4⟩))
 go_ret
 have hb4s := hb4.size
 have hnd0 := HNDS.out
 have hb0s := HB0.out.size
 refine ⟨b', dss4.flatten, rfl, (zpu o4 (Nat.le_refl _)).more (fun x hx => hx.imp id (fun h => by omega)), ?_, ?_, by omega, HB0.out.trans ((HBW3.out.trans hb4).mono hb0s)⟩
 . refine List.nodup_append.2 ⟨hn4, by simp, fun a ha x hx e => ?_⟩
   rw [List.mem_singleton.1 hx] at e
   subst e
   rcases hd4 a ha with k | k
   . rcases hnd0 a k with k | k
     . have := hlt1 a k; omega
     . omega
   . omega
 . intro x hx
   rcases hd4 x hx with k | k
   . rcases hnd0 x k with k | k
     . exact .inl (HSUB.out x k)
     . exact .inr (by omega)
   . exact .inr (by omega)
end
theorem zzf : ∀ (h : Nat) (lo : Str) (hi : Option Str) (n : Tr h), WF h lo hi n -> ElOk h n
 | 0, _, _, _, hw => zgk hw
 | _ + 1, _, _, _, hw => fun e he => Nat.le_trans (zcl hw e he) (by omega)
theorem zfp {h : Nat} {lo : Str} {hi : Option Str} {n : Tr h} (hw : WF h lo hi n) (ht : Top h n) (hp : (Tr.pairs h n).length <= 200) : ze8 h n := by
 obtain ⟨h1, h2, _⟩ := zfl h lo hi n hw ht
 exact ⟨zzf h lo hi n hw, .inl h1, by omega⟩
theorem zgo {h : Nat} {t : Tr (h + 1)} (ht : Top (h + 1) t) : ∀ e ∈ Nd.es t, Top h e.2 := by
 intro e he
 rcases ht with ⟨_, ht⟩ | ⟨x, hx, ht⟩
 . exact ((ht e he).rtl _ _).top _ _
 . rw [hx] at he
   rw [List.mem_singleton.1 he]
   exact ht
theorem zeu {h : Nat} {es : List (Str × Tr h)} : ∀ e ∈ es, (Tr.pairs h e.2).length <= (kpairs h es).length := by
 intro e he
 obtain ⟨A, B, rfl⟩ := List.append_of_mem he
 simp only [zbn, za9, List.length_append]
 omega
theorem zf3 {h : Nat} {lo : Str} {hi : Option Str} {es : List (Str × Tr h)} (hc : Chain (WF h) lo hi es) : ∀ e ∈ es, (∃ hi', WF h e.1 hi' e.2) /\ e.1.size <= 8 := by
 intro e he
 obtain ⟨A, B, rfl⟩ := List.append_of_mem he
 obtain ⟨k, c⟩ := e
 obtain ⟨h1, h2, _⟩ := zca hc
 exact ⟨⟨_, h1⟩, h2⟩
theorem drop_one : ∀ (h : Nat) (lo : Str) (hi : Option Str) (n : Tr h) (key : Str), WF h lo hi n -> slt key lo = false -> zbd hi key -> there key (Tr.pairs h n) = true -> Top h n -> (Tr.pairs h n).length = 1 -> ze8 h (Tr.drop h n key) /\ Tr.len h (Tr.drop h n key) <= 1
 | 0, lo, hi, n, key, hw, hk, hh, hth, ht, hp => by
   have hl := (zdi key (Nd.es n) (show LeafWF lo hi (Nd.es n) from hw).1 hth).1
   have hp' : (Nd.es n).length = 1 := hp
   have : Nd.es (Tr.drop 0 n key) = [] := List.eq_nil_of_length_eq_zero (by show (zbu key (Nd.es n)).length = 0; omega)
   refine ⟨⟨fun e he => ?_, .inr rfl, ?_⟩, ?_⟩
   . rw [this] at he; cases he
   . show (Nd.es (Tr.drop 0 n key)).length <= 200; rw [this]; simp
   . show (Nd.es (Tr.drop 0 n key)).length <= 1; rw [this]; simp
 | h + 1, lo, hi, n, key, hw, hk, hh, hth, ht, hp => by
   rcases ht with ht | ⟨e, he, ht⟩
   . have := ziz ht
     have : 1 <= 3 ^ h := Nat.one_le_pow _ _ (by omega)
     omega
   . have hw' : Chain (WF h) lo hi [e] := by rw [<- he]; exact hw
     have hpp : Tr.pairs (h + 1) n = Tr.pairs h e.2 := by
      show kpairs h (Nd.es n) = _
      rw [he]; simp [kpairs]
     obtain ⟨e1, e2, e3⟩ := hw'
     rcases e3 with ⟨_, hwe⟩ | ⟨_, _, _, _, hcx⟩
     . rw [hpp] at hth hp
       obtain ⟨i1, i2⟩ := drop_one h lo hi e.2 key hwe hk hh hth ht hp
       have hnf : Tr.full h (Tr.drop h e.2 key) = false := by
        have := i1.1.size
        unfold Tr.full
        exact decide_eq_false (by omega)
       have hon : zah h key (Nd.es n) (fun c => Tr.drop h c key) = [(e.1, Tr.drop h e.2 key)] := by
        rw [he, ze5]
        unfold zax
        have hfx : fix h e.1 (Tr.drop h e.2 key) = [(e.1, Tr.drop h e.2 key)] := by simp [fix, hnf]
        split <;> simp [hfx]
       have hes : Nd.es (Tr.drop (h + 1) n key) = [(e.1, Tr.drop h e.2 key)] := hon
       refine ⟨⟨fun x hx => ?_, .inl ?_, ?_⟩, ?_⟩
       . change x ∈ Nd.es (Tr.drop (h + 1) n key) at hx
         rw [hes] at hx
         rw [List.mem_singleton.1 hx]
         unfold ksz
         simp only
         omega
       . show 1 <= (Nd.es (Tr.drop (h + 1) n key)).length; rw [hes]; simp
       . show (Nd.es (Tr.drop (h + 1) n key)).length <= 200; rw [hes]; simp
       . show (Nd.es (Tr.drop (h + 1) n key)).length <= 1; rw [hes]; simp
     . exact hcx.elim
theorem zl9 {h : Nat} {lo : Str} {hi : Option Str} {n : Tr h} {key : Str} (hw : WF h lo hi n) (hk : slt key lo = false) (hh : zbd hi key) (hth : there key (Tr.pairs h n) = true) (ht : Top h n) (hp : (Tr.pairs h n).length <= 150) : ze8 h (Tr.drop h n key) := by
 obtain ⟨f1, f2, _⟩ := zfl h lo hi n hw ht
 by_cases h1 : (Tr.pairs h n).length = 1
 . exact (drop_one h lo hi n key hw hk hh hth ht h1).1
 . obtain ⟨d1, d2⟩ := zea h lo hi n key hw hk hh hth
   have hl := (zdi key (Tr.pairs h n) (zc6 h _ _ n hw).1 hth).1
   exact zfp d1 ((zlz h lo hi n key hw hk hh hth).1 ht (by omega)) (by rw [d2]; omega)
theorem zsu : ∀ (h : Nat) (ok : Nat -> Prop) (lo : Str) (hi : Option Str) (t : Tr h) (key v : Str) (b : Nat) (ds : List Nat) (w : World), WF h lo hi t -> Top h t -> slt key lo = false -> zbd hi key -> zb1 key -> okVal v -> (Tr.pairs h t).length <= 150 -> FRep ok w h t b ds -> ds.Nodup ->
   Calls Tryz.prog 84 #[P b, .agg #[.string key, .string v]] w (ze9 ok w h (Tr.put h t key v) ds)
 | 0, ok, lo, hi, t, key, v, b, ds, w, hw, _, _, _, _, _, hp, hf, _ => zpr t key v b ds w hf hw.1 (Nat.le_trans hp (by omega))
 | h + 1, ok, lo, hi, t, key, v, b, ds, w, hw, ht, hk, hh, h1, h2, hp, hf, hnd => by
   have hc0 : Chain (WF h) lo hi (Nd.es t) := hw
   obtain ⟨A, ⟨k, c⟩, B, hX, hl, h5, h6⟩ := zdm hc0 hk
   have hc : Chain (WF h) lo hi (A ++ (k, c) :: B) := by rw [<- hX]; exact hc0
   obtain ⟨_, _, m3⟩ := zd9 hc h5 h6
   have hmem : ∀ e ∈ A ++ (k, c) :: B, ze8 h e.2 /\ e.1.size <= 15 := by
    intro e he
    obtain ⟨⟨hi', w1⟩, w2⟩ := zf3 hc e he
    have hp' : (kpairs h (A ++ (k, c) :: B)).length <= 150 := by rw [<- hX]; exact hp
    exact ⟨zfp w1 (zgo ht e (by rw [hX]; exact he)) (by have := zeu e he; omega), by omega⟩
   have hpc : (Tr.pairs h c).length <= 150 := Nat.le_trans (zeu (es := A ++ (k, c) :: B) (k, c) (by simp)) (by show (kpairs h (A ++ (k, c) :: B)).length <= 150; rw [<- hX]; exact hp)
   have htc : Top h c := zgo ht (k, c) (by rw [hX]; simp)
   have hwc := (zca hc).1
   obtain ⟨p1, p2⟩ := zd2 h k _ c key v hwc h5 (m3 hh) h1 h2
   have hlp := (zh9 key v (Tr.pairs h c) (zc6 h _ _ c hwc).1).1
   have hfew := (zfl (h + 1) lo hi t hw ht).2.1
   refine zud (pre := A) (post := B) (k := k) (c := c) key v b ds w hf hnd hX hl (by have : (Nd.es t).length <= _ := hfew; omega) ?_ (fun ok' bc dc w' hf' hnd' => zsu h ok' k _ c key v bc dc w' hwc htc h5 (m3 hh) h1 h2 hpc hf' hnd')
   intro e he
   rcases List.mem_append.1 he with he | he
   . exact hmem e (by simp [he])
   . rcases List.mem_cons.1 he with rfl | he
     . exact ⟨zfp p1 ((zly h k _ c key v hwc h5 (m3 hh) h1 h2).1 htc) (by rw [p2, hlp]; split <;> omega), (hmem (k, c) (by simp)).2⟩
     . exact hmem e (by simp [he])
theorem zpv : ∀ (h : Nat) (ok : Nat -> Prop) (lo : Str) (hi : Option Str) (t : Tr h) (key : Str) (b : Nat) (ds : List Nat) (w : World), WF h lo hi t -> Top h t -> slt key lo = false -> zbd hi key -> there key (Tr.pairs h t) = true -> (Tr.pairs h t).length <= 150 -> FRep ok w h t b ds -> ds.Nodup ->
   Calls Tryz.prog 80 #[P b, .string key] w (ze9 ok w h (Tr.drop h t key) ds)
 | 0, ok, lo, hi, t, key, b, ds, w, hw, _, _, _, hth, hp, hf, _ => zvx t key b ds w hf hw.1 (Nat.le_trans hp (by omega)) hth
 | h + 1, ok, lo, hi, t, key, b, ds, w, hw, ht, hk, hh, hth, hp, hf, hnd => by
   have hc0 : Chain (WF h) lo hi (Nd.es t) := hw
   obtain ⟨A, ⟨k, c⟩, B, hX, hl, h5, h6⟩ := zdm hc0 hk
   have hc : Chain (WF h) lo hi (A ++ (k, c) :: B) := by rw [<- hX]; exact hc0
   obtain ⟨_, _, m3⟩ := zd9 hc h5 h6
   have hmem : ∀ e ∈ A ++ (k, c) :: B, ze8 h e.2 /\ e.1.size <= 15 := by
    intro e he
    obtain ⟨⟨hi', w1⟩, w2⟩ := zf3 hc e he
    have hp' : (kpairs h (A ++ (k, c) :: B)).length <= 150 := by rw [<- hX]; exact hp
    exact ⟨zfp w1 (zgo ht e (by rw [hX]; exact he)) (by have := zeu e he; omega), by omega⟩
   have hpc : (Tr.pairs h c).length <= 150 := Nat.le_trans (zeu (es := A ++ (k, c) :: B) (k, c) (by simp)) (by show (kpairs h (A ++ (k, c) :: B)).length <= 150; rw [<- hX]; exact hp)
   have htc : Top h c := zgo ht (k, c) (by rw [hX]; simp)
   have hwc := (zca hc).1
   have hthc : there key (Tr.pairs h c) = true := zix hc h5 h6 (by rw [<- hX]; exact hth)
   have hfew := (zfl (h + 1) lo hi t hw ht).2.1
   refine zrs (pre := A) (post := B) (k := k) (c := c) key b ds w hf hnd hX hl (by have : (Nd.es t).length <= _ := hfew; omega) ?_ (fun ok' bc dc w' hf' hnd' => zpv h ok' k _ c key bc dc w' hwc htc h5 (m3 hh) hthc hpc hf' hnd')
   intro e he
   rcases List.mem_append.1 he with he | he
   . exact hmem e (by simp [he])
   . rcases List.mem_cons.1 he with rfl | he
     . exact ⟨zl9 hwc h5 (m3 hh) hthc htc hpc, (hmem (k, c) (by simp)).2⟩
     . exact hmem e (by simp [he])
end Go.Proofs.YtemondlgcmpbbaaGreatDoor
namespace Go.Proofs.YtemondlgcmpbbaaGreatDoor
set_option maxRecDepth 100000
def Tr.from : (h : Nat) -> Tr h -> Str -> List (Str × Str)
 | 0, n, key => (Nd.es n).drop (place key (Nd.es n))
 | h + 1, n, key => ((Nd.es n).drop (below key (Nd.es n))).flatMap fun e => Tr.from h e.2 key
theorem zi7 {α β : Type} {f g : α -> List β} {l : List α} (h : ∀ e ∈ l, f e = g e) : l.flatMap f = l.flatMap g := by
 induction l with
 | nil => rfl
 | cons a l ih => rw [List.flatMap_cons, List.flatMap_cons, h a (by simp), ih fun e he => h e (by simp [he])]
theorem zvy {K : Type} {key : Str} {l : List (Str × K)} (h : ∀ e ∈ l, slt e.1 key = false) : place key l = 0 := by
 unfold place
 cases l with
 | nil => rfl
 | cons a l => rw [List.takeWhile_cons_of_neg (by simp [h a (by simp)])]; rfl
theorem zvz {K : Type} {key : Str} {l : List (Str × K)} (h : ∀ e ∈ l.tail, slt key e.1 = true) : below key l = 0 := by
 unfold below
 cases ht : l.tail with
 | nil => rfl
 | cons a r =>
   rw [ht] at h
   rw [List.takeWhile_cons_of_neg (by simp [h a (by simp)])]; rfl
theorem zi8 {K : Type} {W : Str -> Option Str -> K -> Prop} {lo : Str} {hi : Option Str} {X : List (Str × K)} (h : Chain W lo hi X) : ∀ e ∈ X.tail, slt lo e.1 = true := by
 induction X generalizing lo with
 | nil => intro e he; cases he
 | cons a X ih =>
   obtain ⟨h1, _, h3⟩ := h
   intro e he
   rcases h3 with ⟨rfl, _⟩ | ⟨k, hk, _, _, hc⟩
   . cases he
   . cases X with
     | nil => cases he
     | cons b X =>
       have hb : b.1 = k := hc.1
       rcases List.mem_cons.1 he with rfl | he
       . rw [hb]; exact hk
       . exact zbs hk (ih hc e he)
theorem zpw : ∀ (h : Nat) (lo : Str) (hi : Option Str) (n : Tr h) (key : Str), WF h lo hi n -> slt key lo = true -> Tr.from h n key = Tr.pairs h n
 | 0, lo, hi, n, key, hw, hk => by
   show (Nd.es n).drop (place key (Nd.es n)) = Nd.es n
   rw [zvy fun e he => ?_, List.drop_zero]
   have := (hw.2 e he).1
   exact zbt (zb7 hk this)
 | h + 1, lo, hi, n, key, hw, hk => by
   have hc : Chain (WF h) lo hi (Nd.es n) := hw
   show ((Nd.es n).drop (below key (Nd.es n))).flatMap (fun e => Tr.from h e.2 key) = (Nd.es n).flatMap fun e => Tr.pairs h e.2
   rw [zvz fun e he => zbs hk (zi8 hc e he), List.drop_zero]
   have : ∀ e ∈ Nd.es n, Tr.from h e.2 key = Tr.pairs h e.2 := by
    intro e he
    obtain ⟨⟨hi', w1⟩, _⟩ := zf3 hc e he
    refine zpw h e.1 hi' e.2 key w1 ?_
    cases hx : Nd.es n with
    | nil => rw [hx] at he; cases he
    | cons a X =>
      rw [hx] at he hc
      rcases List.mem_cons.1 he with rfl | he
      . rw [hc.1]; exact hk
      . exact zbs hk (zi8 hc e he)
   exact zi7 this
theorem zma : ∀ (h : Nat) (lo : Str) (hi : Option Str) (n : Tr h) (key : Str), WF h lo hi n -> slt key lo = false -> Tr.from h n key = (Tr.pairs h n).drop (place key (Tr.pairs h n))
 | 0, _, _, _, _, _, _ => rfl
 | h + 1, lo, hi, n, key, hw, hk => by
   have hc0 : Chain (WF h) lo hi (Nd.es n) := hw
   obtain ⟨A, ⟨k, c⟩, B, hX, hl, h5, h6⟩ := zdm hc0 hk
   have hc : Chain (WF h) lo hi (A ++ (k, c) :: B) := by rw [<- hX]; exact hc0
   obtain ⟨m1, m2, _⟩ := zd9 hc h5 h6
   show ((Nd.es n).drop (below key (Nd.es n))).flatMap (fun e => Tr.from h e.2 key) = (kpairs h (Nd.es n)).drop (place key (kpairs h (Nd.es n)))
   rw [hl, hX, List.drop_left, List.flatMap_cons, zbn, za9, <- List.append_assoc, zkr key _ _ _ m1 m2, zma h k _ c key (zca hc).1 h5]
   congr 1
   have : ∀ e ∈ B, Tr.from h e.2 key = Tr.pairs h e.2 := by
    intro e he
    obtain ⟨⟨hi', w1⟩, _⟩ := zf3 hc e (by simp [he])
    refine zpw h e.1 hi' e.2 key w1 ?_
    have hk2 : zbd (zck none B) key := h6
    obtain ⟨B1, B2, rfl⟩ := List.append_of_mem he
    cases B1 with
    | nil => exact hk2 _ rfl
    | cons b B1 =>
      have hb : slt key b.1 = true := hk2 _ rfl
      have hcb := (zdw (A := A ++ [(k, c)]) (B := (b :: B1) ++ e :: B2) (by simpa using hc) (by simp) (by simp)).2.2.2
      exact zbs hb (zi8 hcb e (by simp))
   exact zi7 this
end Go.Proofs.YtemondlgcmpbbaaGreatDoor
namespace Go.Proofs.YtemondlgcmpbbaaGreatDoor
open Go.RowKit
set_option maxRecDepth 100000
def TreeV (ok : Nat -> Prop) (w : World) (t : Tree) (rp : Value) (ds : List Nat) : Prop := (t.root = none /\ rp = .pointer none /\ ds = []) \/ ∃ h n b, t.root = some ⟨h, n⟩ /\ rp = P b /\ FRep ok w h n b ds
def za7 (rp : Value) (keys : Nat) : Value := .agg #[rp, .int .i64 keys]
theorem TreeV.move {ok ok' : Nat -> Prop} {w w' : World} {t : Tree} {rp : Value} {ds : List Nat} (h : TreeV ok w t rp ds) (ha : Agree ok w w') (hs : ∀ x, ok x -> ok' x) : TreeV ok' w' t rp ds :=
 h.imp id fun ⟨h, n, b, e1, e2, e3⟩ => ⟨h, n, b, e1, e2, e3.move ha hs⟩
theorem TreeV.below {ok ok' : Nat -> Prop} {w w' : World} {t : Tree} {rp : Value} {ds : List Nat} (h : TreeV ok w t rp ds) (hb : Below w.heap.size w w') (hs : ∀ x, ok x -> ok' x) : TreeV ok' w' t rp ds :=
 h.imp id fun ⟨h, n, b, e1, e2, e3⟩ => ⟨h, n, b, e1, e2, e3.below hb hs⟩
theorem TreeV.ds {ok : Nat -> Prop} {w : World} {t : Tree} {rp : Value} {ds : List Nat} (h : TreeV ok w t rp ds) : ∀ x ∈ ds, ok x /\ x < w.heap.size := by
 rcases h with ⟨_, _, rfl⟩ | ⟨h, n, b, _, _, hf⟩
 . intro x hx; cases hx
 . exact FRep.ds hf
def zk5 (r : Option Str) : Value := .tuple #[.string (r.getD ByteArray.empty), .bool r.isSome]
theorem zv0 {key v : Str} {es : List (Str × Str)} (h : lookup key es = some v) (hl : place key es < es.length) : es[place key es].2 = v := by
 unfold lookup at h
 rw [List.drop_eq_getElem_cons hl] at h
 simp only at h
 split at h
 . exact Option.some.inj h
 . cases h
def zpx (key : Str) (res : Option Str) (w : World) (k : Nat) (p : Value) (wr : World) : Prop :=
 ∃ (n : Tr k) (b : Nat) (ds : List Nat) (lo : Str) (hi : Option Str), p = P b /\ FRep (fun _ => True) wr k n b ds /\ WF k lo hi n /\ Top k n /\ slt key lo = false /\ Tr.get k n key = res /\ (Tr.pairs k n).length <= 150 /\ Below w.heap.size w wr
theorem zxn (keys : Nat) (key : Str) (w : World) : Calls Tryz.prog 56 #[za7 (.pointer none) keys, .string key] w fun e w' => e = .returned (zk5 none) /\ Below w.heap.size w w' := by
 have hb0 : Below w.heap.size w (w.alloc (.cells #[.pointer none, .int .i64 keys] 88)) := (Below.refl _ _).alloc (Nat.le_refl _) _
 unfold za7
 go_enter Tryz.func56, Tryz.ntmps56
 go_wp2
 refine wp_loop_rounds 1 ?_
 rw [rounds_succ]
 go_wp2
 go_ret2
 exact ⟨rfl, hb0⟩
set_option maxHeartbeats 1600000 in
theorem zxo (keys h b : Nat) (n : Tr h) (ds : List Nat) (key : Str) (w : World) (hf : FRep (fun _ => True) w h n b ds) (hw : WF h noKey none n) (ht : Top h n) (hp : (Tr.pairs h n).length <= 150) :
   Calls Tryz.prog 56 #[za7 (P b) keys, .string key] w fun e w' => e = .returned (zk5 (Tr.get h n key)) /\ Below w.heap.size w w' := by
 have hb0 : Below w.heap.size w (w.alloc (.cells #[P b, .int .i64 keys] 88)) := (Below.refl _ _).alloc (Nat.le_refl _) _
 have hst : zpx key (Tr.get h n key) w h (P b) (w.alloc (.cells #[P b, .int .i64 keys] 88)) := ⟨n, b, ds, _, _, rfl, hf.below hb0 (fun _ h => h), hw, ht, zav key, rfl, hp, hb0⟩
 obtain ⟨res, hres⟩ : ∃ r, r = Tr.get h n key := ⟨_, rfl⟩
 rw [<- hres] at hst ⊢
 have HST := zaa hst
 clear hf hw ht hp hst hb0 hres
 unfold za7 P
 unfold P at HST
 go_enter Tryz.func56, Tryz.ntmps56
 go_wp2
 go_loopg [6] h (fun k p wr => zpx key res w k p wr)
 case atStart => exact HST.out
 case round =>
  obtain ⟨n, b, ds, lo, hi, rfl, hf, hw, ht, hk, hg, hp, hb⟩ := hrel
  cases gk with
  | zero =>
    obtain ⟨A1, c1, A2, c2, hnd, _, _, _⟩ := hf
    have LEAF := zaa (zdn b (Nd.blk n) (Nd.gen n) c2 (Nd.dirty n) _ A2 wr hnd.node)
    have PLACE := zaa (zhj n key b _ wr (show Rep wr 0 n b (zaf (Nd.dirty n) b) from ⟨_, _, hnd.node, hnd.ps, hnd.ks, rfl⟩) hw.1 (Nat.le_trans hp (by omega)))
    have hblt : b < wr.heap.size := Blk.lt hnd.node
    have hgl : lookup key (Nd.es n) = res := hg
    obtain ⟨es, hes⟩ : ∃ es, es = Nd.es n := ⟨_, rfl⟩
    rw [<- hes] at hgl PLACE
    have hlk : there key es = res.isSome := by rw [zdd, hgl]
    have hat := fun h => hnd.ps.cells_at (Below.refl wr.heap.size wr) (k := place key es) h
    rw [<- hes] at hat
    have c3 : wr.cell? ⟨b, 3, none⟩ = some (.slice A1 es.length c1) := by rw [Blk.cell hnd.node, hes]; rfl
    have hpe := zct es (place key es)
    have hlt := zk4 (key := key) (es := es)
    obtain ⟨i, hi'⟩ : ∃ i, i = place key es := ⟨_, rfl⟩
    rw [<- hi'] at hat hpe hlt PLACE
    rw [hlk] at hlt PLACE
    have HG := zaa hgl
    have HI := zaa hi'
    have HB := zaa hb
    have HND := zaa hnd
    clear hw ht hk hg hp hb hnd hgl hi' hlk HST hes
    unfold P at *
    cases res with
    | none =>
      go_wp2_with (first
       | (go_at_call 81; refine LEAF.out.mono ?_; rintro e w' ⟨rfl, rfl⟩)
       | (go_at_call 83; refine PLACE.out.mono ?_; rintro e w2 ⟨rfl, hb2⟩))
      go_ret2
      exact ⟨rfl, HB.out.trans (hb2.mono HB.out.size)⟩
    | some v =>
      have hlt' := hlt rfl
      obtain ⟨g, o, u1, u2, rfl, hu1, hu2, hc1, hc2, hgl⟩ := hat hlt'
      have hv : es[i].2 = v := by
       have := zv0 HG.out (by rw [<- HI.out]; exact hlt')
       simpa [HI.out] using this
      have e2 := hu2.symm.trans (hpe hlt').2
      injection e2 with e2
      subst e2
      rw [hv] at hc2
      have k1 : (0 : Int) <= (i : Int) := by omega
      have k2 : (i : Int) < (es.length : Int) := by omega
      clear hat hpe hlt hu1 hu2 hv
      go_wp2_with (first
       | (go_at_call 81; refine LEAF.out.mono ?_; rintro e w' ⟨rfl, rfl⟩)
       | (go_at_call 83; go_loud (
          refine PLACE.out.mono ?_; rintro e w2 ⟨rfl, hb2⟩
          have d3 : w2.cell? ⟨b, 3, none⟩ = some (.slice (some ⟨g, o, none⟩) es.length c1) := (hb2.cell hblt).trans c3
          have d4 : w2.cell? ⟨g, o + i * 2 + 1, none⟩ = some (.string v) := (hb2.cell hgl).trans hc2)))
      go_ret2
      exact ⟨rfl, HB.out.trans (hb2.mono HB.out.size)⟩
  | succ k =>
    obtain ⟨A1, c1, A2, c2, bs, dss, hnd, _, _, hkk, _⟩ := hf
    have hc0 : Chain (WF k) lo hi (Nd.es n) := hw
    obtain ⟨A, ⟨kk, c⟩, B, hX, hl, h5, h6⟩ := zdm hc0 hk
    have hlen : (Nd.es n).length <= 150 := Nat.le_trans (zfl (k + 1) lo hi n hw ht).2.1 hp
    have hAl : A.length < (Nd.es n).length := by rw [hX]; simp
    have hbsl := hkk.len.1
    have hwc : WF k kk (zck hi B) c := by
     rw [hX] at hc0
     exact (zca hc0).1
    have htc : Top k c := zgo ht (kk, c) (by rw [hX]; simp)
    have hpc : (Tr.pairs k c).length <= 150 := Nat.le_trans (zeu (es := Nd.es n) (kk, c) (by rw [hX]; simp)) hp
    have hgc : Tr.get k c key = res := by
     rw [<- hg]
     show _ = (match (Nd.es n).drop (below key (Nd.es n)) with | [] => none | e :: _ => Tr.get k e.2 key)
     rw [hl, hX, List.drop_left]
    have hk2 := hkk
    rw [hX] at hk2
    obtain ⟨bp, bc, bq, dp, dc, dq, hbs, hds, l1, l2, r1, r2, r3⟩ := RepL.cut hk2
    obtain ⟨g, o, u1, u2, rfl, hu1, hu2, hc1, hc2, hgl⟩ := hnd.ks.cells_at (Below.refl wr.heap.size wr) (k := A.length) hAl
    have hkc := (zbv (Nd.es n) bs A.length hAl (by omega)).2
    have hbc : bs[A.length]'(by omega) = bc := by
     subst hbs
     rw [List.getElem_append_right (by omega)]
     simp [l1]
    rw [hbc] at hkc
    have e2 := hu2.symm.trans hkc
    injection e2 with e2
    subst e2
    have c4 : wr.cell? ⟨b, 4, none⟩ = some (.slice (some ⟨g, o, none⟩) (Nd.es n).length c2) := by rw [Blk.cell hnd.node]; rfl
    have LEAF := zaa (zec b (Nd.blk n) (Nd.gen n) (Nd.es n).length c2 (Nd.dirty n) _ _ wr hnd.node (by omega) (by omega))
    have BELOW := zaa (fun q => zhi (Nd.es n) bs key b (Nd.blk n) (Nd.gen n) c2 (Nd.dirty n) _ _ (wr.drewN q)
     (hnd.move (Agree.of_below (zad (Below.refl wr.heap.size wr) q) (fun _ hx => hx)) (Blk.lt hnd.node) (rowOk.zero _ _) hnd.ks.row_lt).node
     (hnd.move (Agree.of_below (zad (Below.refl wr.heap.size wr) q) (fun _ hx => hx)) (Blk.lt hnd.node) (rowOk.zero _ _) hnd.ks.row_lt).ks hbsl (by omega) (by omega))
    rw [hl] at BELOW
    obtain ⟨i, hi'⟩ : ∃ i, i = A.length := ⟨_, rfl⟩
    rw [<- hi'] at BELOW hc2 hAl
    obtain ⟨N, hN⟩ : ∃ N, N = (Nd.es n).length := ⟨_, rfl⟩
    rw [<- hN] at c4 hAl
    have k1 : (0 : Int) <= (i : Int) := by omega
    have k2 : (i : Int) < (N : Int) := by omega
    have HREL := zaa (show ∀ q, zpx key res w k (P bc) (wr.drewN q) from fun q => ⟨c, bc, dc, kk, zck hi B, rfl, r2.below (zad (Below.refl _ _) q) (fun _ h => h), hwc, htc, h5, hgc, hpc, hb.trans ((zad (Below.refl _ _) q).mono hb.size)⟩)
    have HREL' := HREL
    clear hw ht hk hg hp hb hnd hkk hc0 hX hl h5 h6 hbsl hwc htc hpc hgc hk2 hbs hds l1 l2 r1 r2 r3 hu1 hu2 hc1 hkc hbc HST hi' hN HREL'
    unfold P at *
    go_upto_region 3 with (first | (go_at_call 81; refine LEAF.out.mono ?_; rintro e w' ⟨rfl, rfl⟩))
    go_quiet (first | (go_at_call 82; exact zco (BELOW.out _)))
    go_wp2
    go_roundg k
    case measure => omega
    case rel => exact HREL.out _
theorem zjq {ok : Nat -> Prop} (t : Tree) (rp : Value) (ds : List Nat) (key : Str) (w : World) (hv : TreeV ok w t rp ds) (ht : TR t) (hp : t.pairs.length <= 150) :
   Calls Tryz.prog 56 #[za7 rp t.keys, .string key] w fun e w' => e = .returned (zk5 (t.get key)) /\ Below w.heap.size w w' := by
 rcases hv with ⟨hr, rfl, _⟩ | ⟨h, n, b, hr, rfl, hf⟩
 . have : t.get key = none := by unfold Tree.get; rw [hr]
   rw [this]
   exact zxn _ _ _
 . have : t.get key = Tr.get h n key := by unfold Tree.get; rw [hr]
   rw [this]
   have hpp : t.pairs = Tr.pairs h n := by unfold Tree.pairs; rw [hr]
   exact zxo _ _ _ n ds key w (hf.more fun _ _ => trivial) (ht.tw.some_ h n hr) (ht.top h n hr) (by rw [<- hpp]; exact hp)
theorem zc3 {α : Type} {l : List α} {k : Nat} (h : k < l.length) : l.take (k + 1) = l.take k ++ [l[k]] := by
 rw [List.take_add_one, List.getElem?_eq_getElem h]; rfl
theorem Below.from_alloc {n₀ : Nat} {W w w' : World} {o : Obj} (h : Below n₀ (w.alloc o) w') (_hb : Below n₀ W w) (hn : n₀ <= w.heap.size) : Below n₀ w w' := ((Below.refl n₀ w).alloc hn o).trans h
def zby (t : Tree) (lo : Str) : List (Str × Str) := t.pairs.drop (place lo t.pairs)
end Go.Proofs.YtemondlgcmpbbaaGreatDoor
