/- Xl Tx: merged. -/
import Derived.Test.YtemondlgcmpbbaaGreatDoorMX36
import Derived.Test.YtemondlgcmpbbaaGreatDoorMX33
import Derived.Test.YtemondlgcmpbbaaGreatDoorMX34
namespace Go.Proofs.YtemondlgcmpbbaaGreatDoor
open Go.RowKit
set_option maxRecDepth 100000
section
variable {w w' W1 : World} {B N : Nat} {d : DiI} {s : LdS} {m : Nums} {bytes : List UInt8} {kM kW : Nat} {σ : StI}
theorem DiOk.kept (H : DiOk w B N d s m bytes kM kW) (hn : d.own.Nodup) (hst : d.st = some σ) (hb : Below w.heap.size w W1) (h : KeepTo W1 w' d.p B d.ls.length s (d.ls.map (·.a)) (d.ls.map (·.b)) (fun y => w.heap.size <= y)) {e : Ending} (he : e = .returned (.bool true)) : TurnPost B N d w e w' := by
 obtain ⟨L, W, e1, e2, hl, ha, hbr, hea, hL, hW, hne, ho1⟩ := h
 rw [H.lists] at hL ho1
 rw [H.want] at hW ho1
 have hlt : ∀ y ∈ d.own, y < w.heap.size := fun y hy => (H.own y hy).lt
 have ho : Only (fun y => y = d.p \/ some y = d.lsv.ownBlock \/ some y = d.wtv.ownBlock) w w' := (Only.of_below hb).trans' ho1 (fun y hy e => by
  rcases e with e | e
  . omega
  . exact e)
 have hfb : ∀ y, (y = d.p \/ some y = d.lsv.ownBlock \/ some y = d.wtv.ownBlock) -> y ∈ d.base := fun y hy => by
  unfold DiI.base
  rcases hy with e | e | e
  . simp [e]
  . simp [<- e]
  . simp [<- e]
 have hbo : ∀ y ∈ d.base, y ∈ d.own := fun y hy => by unfold DiI.own; exact List.mem_append_left _ hy
 have hkf : KF (fun y => y = d.p \/ some y = d.lsv.ownBlock \/ some y = d.wtv.ownBlock) w := H.kf fun y hy => hbo y (hfb y hy)
 have hn0 := hn
 unfold DiI.own at hn
 obtain ⟨n1, n2, n3⟩ := List.nodup_append.1 hn
 unfold DiI.base at n1
 simp only [List.nodup_cons, List.mem_cons, List.mem_append, not_or] at n1
 obtain ⟨⟨a1, a2, a3, a4⟩, ⟨a5, a6, a7⟩, ⟨a8, a9⟩, a10⟩ := n1
 have h := H.dk
 have hm : ∀ x cs, Blk w x 241 cs -> ¬ (x = d.p \/ some x = d.lsv.ownBlock \/ some x = d.wtv.ownBlock) := fun x cs hx => hkf x _ cs hx (by decide)
 obtain ⟨q1, q2, q3, q4, hσ⟩ := H.sok hst
 have hbase : w.heap.size <= W1.heap.size := hb.size
 have hL' : ∀ g, L.ownBlock = some g -> g ∈ d.lsv.ownBlock.toList \/ w.heap.size <= g := fun g hg => (hL g hg).imp (fun k => by simp [k]) fun k => by omega
 have hW' : ∀ g, W.ownBlock = some g -> g ∈ d.wtv.ownBlock.toList \/ w.heap.size <= g := fun g hg => (hW g hg).imp (fun k => by simp [k]) fun k => by omega
 refine ⟨he, { d with lsv := L, wtv := W, ls := d.ls ++ [e1, e2] }, ⟨{ s with lists := L, want := W }, m, bytes, kM, kW, ⟨⟨hl, ⟨h.ok.may.only ho hm, h.ok.were.only ho hm, h.ok.emp, h.ok.wild, h.ok.bit, h.ok.kM, h.ok.kW⟩, (h.dk.only ho fun y hy => ?_).more (by omega), h.db, h.calm, h.hz.mono (by omega), by have := h.few; omega, h.st, h.lo, h.lt⟩, H.poi, rfl, rfl, ?_, ⟨?_, ?_, ?_, ?_⟩⟩⟩, ⟨rfl, ?_, ?_, ho.mono fun y _ hy => hbo y (hfb y hy)⟩⟩
 . rcases hy with e | e | e
   . rw [e]; rintro (k | k | k)
     . exact a1 k.symm
     . exact a6 (by simp [<- k])
     . exact a7 (by simp [<- k])
   . rw [e]; rintro (k | k | k)
     . exact a2 k.symm
     . exact a8 (by simp [<- k])
     . exact a9 (by simp [<- k])
   . cases e
 . show StIs w' B (N + 1) { d with lsv := L, wtv := W, ls := d.ls ++ [e1, e2] } { s with lists := L, want := W }
   unfold StIs
   simp only [hst]
   refine ⟨q1, q2, q3, q4, (hσ.only ho hkf fun y hy k => ?_).more⟩
   have hys : y ∈ d.sown := by unfold DiI.sown; rw [hst]; exact hy
   exact n3 y (hfb y k) y hys rfl
 . simp only [List.length_append, List.length_cons, List.length_nil, List.map_append, List.map_cons, List.map_nil]
   exact ha
 . simp only [List.length_append, List.length_cons, List.length_nil, List.map_append, List.map_cons, List.map_nil]
   exact hbr
 . intro e he
   rcases List.mem_append.1 he with k | k
   . exact ⟨(H.ls.each e k).1.imp fun base k => zak k ho fun z cs hz => hkf z _ cs hz (by decide), (H.ls.each e k).2.imp fun base k => zak k ho fun z cs hz => hkf z _ cs hz (by decide)⟩
   . simp only [List.mem_cons, List.not_mem_nil, or_false] at k
     exact hea e k
 . have := H.ls.len
   simp only [List.length_append, List.length_cons, List.length_nil]
   omega
 . intro y hy
   simp only [DiI.own, DiI.base, DiI.sown, List.mem_append, List.mem_cons, Option.mem_toList] at hy ⊢
   rcases hy with (e | e | e | e | e) | e
   . exact .inl (.inl (.inl e))
   . exact .inl (.inl (.inr (.inl e)))
   . exact .inl (.inl (.inr (.inr (.inl e))))
   . exact (hL' y e).imp (fun k => .inl (.inr (.inr (.inr (.inl (by simpa using k)))))) id
   . exact (hW' y e).imp (fun k => .inl (.inr (.inr (.inr (.inr (by simpa using k)))))) id
   . exact .inl (.inr e)
 . have e1 : d.own = [d.p, d.db, d.g] ++ (d.lsv.ownBlock.toList ++ d.wtv.ownBlock.toList) ++ d.sown := by simp [DiI.own, DiI.base]
   show (([d.p, d.db, d.g] ++ (L.ownBlock.toList ++ W.ownBlock.toList)) ++ d.sown).Nodup
   refine zdw (z := w.heap.size) (F := d.lsv.ownBlock.toList ++ d.wtv.ownBlock.toList) (by rw [<- e1]; exact hn0) (by rw [<- e1]; exact hlt) (List.nodup_append.2 ⟨?_, ?_, ?_⟩) fun y hy => ?_
   . cases L.ownBlock <;> simp
   . cases W.ownBlock <;> simp
   . intro x hx y hy e
     rw [Option.mem_toList] at hx hy
     exact hne x hx (by rw [e]; exact hy)
   . rcases List.mem_append.1 hy with k | k
     . exact (hL' y (by simpa using k)).imp (fun k => List.mem_append_left _ k) id
     . exact (hW' y (by simpa using k)).imp (fun k => List.mem_append_right _ k) id
end
theorem zur : zmt := by
 intro w B N d σ τ a b lo hi most h hn hpos hst hts hg hN hB _ _ _
 obtain ⟨s, m, bytes, kM, kW, H⟩ := h
 obtain ⟨q1, q2, q3, q4, hσ⟩ := H.sok hst
 obtain ⟨hτ, t1, t2, t3, _⟩ := H.around hn hst hts
 have hdev : DkAt w s.db (.slice (some ⟨d.g, 0, none⟩) s.n (zcg bytes)) (.slice none 0 0) m := by rw [H.dk.db]; exact H.dk.dk.at_
 cases hd : τ.done with
 | true =>
   refine (zmv lo hi most H.dk.at_ H.poi hdev hτ hσ.db rfl hg hd).mono ?_
   rintro e w' ⟨he, hb⟩
   exact TurnPost.same ⟨s, m, bytes, kM, kW, H⟩ hn hb he
 | false =>
   have hne : ∀ g, s.lists.ownBlock = some g -> s.want.ownBlock ≠ some g := fun g h1 h2 => by
    rw [H.lists] at h1
    rw [H.want] at h2
    unfold DiI.own DiI.base at hn
    have h3 := (List.nodup_append.1 hn).1
    simp only [List.nodup_cons] at h3
    exact (List.nodup_append.1 h3.2.2.2).2.2 g (by simp [h1]) g (by simp [h2]) rfl
   refine (zmw lo hi most d.ls.length (d.ls.map (·.a)) (d.ls.map (·.b)) H.dk.at_ H.poi hdev hτ hσ.db rfl hd (by rw [H.lists]; exact H.ls.a) (by rw [H.want]; exact H.ls.b) hne hB (by have := H.ls.len; omega)).mono ?_
   rintro e w' ⟨he, W1, hb, hk⟩
   exact H.kept hn hst hb hk he
def zrv (o : OpS) : Prop := o.kind < 4 \/ o.kind ∈ ([10, 11, 12, 13, 14, 15, 16, 18] : List Int)
theorem zp4 : zjy VI zrv := by
 intro B N wb w o hw hg h0 hB hN hok hk
 have hk' : o.kind <= 0 \/ (o.kind = 1 \/ o.kind = 2 \/ o.kind = 3) \/ (o.kind = 10 \/ o.kind = 11 \/ o.kind = 12 \/ o.kind = 13 \/ o.kind = 14 \/ o.kind = 15 \/ o.kind = 16 \/ o.kind = 18) := by
  rcases hk with hk | hk
  . omega
  . simp only [List.mem_cons, List.not_mem_nil, or_false] at hk; omega
 rcases hk' with hk | hk | hk
 . exact zs4 hw hB hk
 . exact zs3 hw hB hN hk
 . exact zrj hw hg h0 hB hN hok (by omega) (fun _ => zur) (fun h => by omega)
theorem ztj (A : Option Addr) (n c : Nat) (os : List OpS) (w : World) (h : ScAt w w.heap.size A n c os) (hg : Glob w) (hok : ∀ o ∈ os, o.ok) :
   Calls Tryz.prog 13 #[.slice A n c] w (zqq w) := by
 have hb0 : Below w.heap.size w (w.alloc (.cells #[.int .i64 10, .int .i64 11, .int .i64 12, .int .i64 13, .int .i64 14, .int .i64 15, .int .i64 16, .int .i64 18] 3)) := (Below.refl _ _).alloc (Nat.le_refl _) _
 have h' : ScAt (w.alloc (.cells #[.int .i64 10, .int .i64 11, .int .i64 12, .int .i64 13, .int .i64 14, .int .i64 15, .int .i64 16, .int .i64 18] 3)) (w.alloc (.cells #[.int .i64 10, .int .i64 11, .int .i64 12, .int .i64 13, .int .i64 14, .int .i64 15, .int .i64 16, .int .i64 18] 3)).heap.size A n c os := by
  obtain ⟨h1, h2, h3, h4⟩ := h.below hb0
  refine ⟨h1, h2, h3, fun h0 => ?_⟩
  obtain ⟨b, o, hA, hb, hc⟩ := h4 h0
  exact ⟨b, o, hA, by have := hb0.size; omega, hc⟩
 have HP := zaa (zqr (okK := zrv) zp4 zrk A n c os w.heap.size [10, 11, 12, 13, 14, 15, 16, 18] _ h' (hg.alloc _) hok (Blk.new w 3 #[.int .i64 10, .int .i64 11, .int .i64 12, .int .i64 13, .int .i64 14, .int .i64 15, .int .i64 16, .int .i64 18]) (by decide) (fun o ho => ho))
 have HB0 := zaa hb0
 clear h h' hg hok hb0
 go_enter Tryz.func13, Tryz.ntmps13
 go_wp2_with (go_at_call 48; refine HP.out.mono ?_; rintro e w' ⟨rfl, hb⟩)
 go_ret
 exact ⟨rfl, HB0.out.trans (hb.mono HB0.out.size)⟩
end Go.Proofs.YtemondlgcmpbbaaGreatDoor
