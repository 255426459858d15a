/- Walks: a step on what the caller owns: a new disk; none of these. -/
import Derived.Test.YtemondlgcmpbbaaGreatDoorWt
namespace Go.Proofs.YtemondlgcmpbbaaGreatDoor
open Go.RowKit

/-- A disk that was made just now, behind the others. -/
theorem DiskIs.fresh {w : World} {B N : Nat} {p b g n : Nat} (hp : LdAt w p ⟨b, n, .slice none 0 0, false, .slice none 0 0, false, false, .pointer none, .slice none 0 0, 0, false, .slice none 0 0, .slice none 0 0, .slice none 0 0⟩)
    (hd : Dk w 0 b g 0 n (.slice none 0 0) Nums.new (List.replicate (n * 128) 0) []) (hlo : B ≤ p ∧ B ≤ b ∧ B ≤ g) (hlt : n < 1000) : DiskIs w B N ⟨p, b, g⟩ :=
  ⟨_, _, _, 0, 0, ⟨hp, ⟨MapsAt.nil _, MapsAt.nil _, rfl, rfl, rfl, Nat.zero_le _, Nat.zero_le _⟩, hd.more (Nat.zero_le _), rfl, Nums.new_calm, Hz_zero _ _, Nat.zero_le _, .inl ⟨heads_zero _, rfl⟩, hlo, hlt⟩⟩

theorem apart_new {w : World} {B N wb : Nat} {keepv disksv : Value} {xs : List Value} {ds : List DkB} (h : WIs w B N wb keepv disksv xs ds) {d : DkB} (h1 : w.heap.size ≤ d.p) (h2 : w.heap.size ≤ d.db) (h3 : w.heap.size ≤ d.g) : (ds ++ [d]).Pairwise DkB.apart := by
  rw [List.pairwise_append]
  refine ⟨h.apart, List.pairwise_singleton _ _, fun e he f hf => ?_⟩
  rw [List.mem_singleton.1 hf]
  obtain ⟨s, m, bytes, kM, kW, k⟩ := h.each e he
  have := k.has_lt (.inl rfl)
  have := k.has_lt (.inr (.inl rfl))
  have := k.has_lt (.inr (.inr rfl))
  exact ⟨by omega, by omega, by omega⟩

section
variable {B N wb : Nat} {w : World} {o : OpS}

set_option maxRecDepth 100000 in
set_option maxHeartbeats 2000000 in
theorem owner_disk (h : WI w B N wb) (hB : B ≤ w.heap.size) (hN : N ≤ 16384) (hk : o.kind = 3) :
    Calls Tryz.prog 146 #[.pointer (some ⟨wb, 0, none⟩), .agg o.cells] w (OwnPost B N wb w true) := by
  obtain ⟨i0, hi0, hi1, hi2, hi3⟩ := info_parts info_pd
  obtain ⟨keepv, disksv, xs, ds, h⟩ := h
  obtain ⟨A, c, rfl, _⟩ := ownN_form h.disks
  obtain ⟨kind, x, y, a, b, s, t⟩ := o
  simp only at hk
  subst hk
  obtain ⟨W1, hW1⟩ : ∃ W1, W1 = (w.alloc (.cells #[.int .i64 3, .int .i64 x, .int .i64 y, .int .i64 a, .int .i64 b, .string s, .string t] 124)).alloc (.cells #[.pointer none, .int .i64 (blocksN a), .slice none 0 0, .bool false, .slice none 0 0, .bool false, .bool false, .pointer none, .slice none 0 0, .int .i64 0, .bool false, .slice none 0 0, .slice none 0 0, .slice none 0 0] 245) := ⟨_, rfl⟩
  have hz1 : Below w.heap.size w W1 := by rw [hW1]; exact ((Below.refl _ _).alloc (Nat.le_refl _) _).alloc (by simp) _
  have hs1 : W1.heap.size = w.heap.size + 1 + 1 := by rw [hW1]; simp only [World.size_alloc]
  have h1 := h.below hz1
  have hld : Blk W1 (w.heap.size + 1) 245 #[.pointer none, .int .i64 (blocksN a), .slice none 0 0, .bool false, .slice none 0 0, .bool false, .bool false, .pointer none, .slice none 0 0, .int .i64 0, .bool false, .slice none 0 0, .slice none 0 0, .slice none 0 0] := by rw [hW1]; exact Blk.new2 _ _ _ _
  have HN := hide (newDisk_any a 0 W1 (Nat.zero_le _))
  have hdl := h.dl
  have hlo := h.lo
  have HI0 := hide hi0
  have HI1 := hide hi1
  have HI2 := hide hi2
  have HI3 := hide hi3
  have H1 := hide h1
  have HB1 := hide hz1
  have HLD := hide hld
  have HW1 := hide hW1
  clear h h1 hz1 hld hi0 hi1 hi2 hi3 hW1
  unfold OpS.cells
  go_enter Tryz.func146, Tryz.ntmps146
  go_wp2_with (first
    | (go_at_call 174; refine (blocks_of _ _).mono ?_; rintro e w' ⟨rfl, rfl⟩)
    | (go_at_call 49; go_loud (
       rw [← HW1.out]
       refine HN.out.mono ?_; rintro e w2 ⟨b2, g2, rfl, hd2, hzb, hzg, hb2⟩
       have hld2 := HLD.out.below hb2 HLD.out.lt
       have h2 := H1.out.below hb2
       have l0 : w2.cell? ⟨w.heap.size + 1, 0, none⟩ = some (.pointer none) := cellOf hld2 0 rfl
       have lf : w2.frozen? ⟨w.heap.size + 1, 0, none⟩ = false := hld2.frozen 0
       obtain ⟨W3, hW3⟩ : ∃ W3, W3 = w2.setCell ⟨w.heap.size + 1, 0, none⟩ (.pointer (some ⟨b2, 0, none⟩)) := ⟨_, rfl⟩
       have hs2 := hb2.size
       have hs32 : W3.heap.size = w2.heap.size := by rw [hW3]; simp [World.setCell]
       have ho3 : Only (· = w.heap.size + 1) w2 W3 := by rw [hW3]; exact Only.set1 _ _ _ _
       have hld3 : LdAt W3 (w.heap.size + 1) ⟨b2, blocksN a, .slice none 0 0, false, .slice none 0 0, false, false, .pointer none, .slice none 0 0, 0, false, .slice none 0 0, .slice none 0 0, .slice none 0 0⟩ := by rw [hW3]; exact hld2.set_ 0 _
       have hd3 := hd2.only ho3 (fun y hy e => by rcases hy with k | k | k; omega; omega; cases k)
       have hwl : wb < W1.heap.size := H1.out.at_.lt
       have hwl0 : wb < w.heap.size + 1 := by
         rcases Nat.lt_or_ge wb (w.heap.size + 1) with k | k
         · exact k
         · have e : wb = w.heap.size + 1 := by omega
           exact absurd e.symm (Blk.ne_ HLD.out H1.out.at_ (by decide))
       have hb3 : Below (w.heap.size + 1) w2 W3 := ho3.to_below (by omega) (fun x hx => by omega)
       have HA3 := hide (show Blk W3 wb 186 #[keepv, .slice A ds.length c] from h2.at_.only ho3 (by omega))
       have hk3 : W3.ownsRow B 3 1 keepv xs.length xs := ownN_only h2.keep ho3 (fun y cs hy e => by subst e; exact Blk.ne_ hy hld2 (by decide) rfl)
       have hdk3 : W3.ownsRow B 235 1 (.slice A ds.length c) ds.length (ds.map dptr) := ownN_only h2.disks ho3 (fun y cs hy e => by subst e; exact Blk.ne_ hy hld2 (by decide) rfl)
       have c21 : w2.cell? ⟨wb, 1, none⟩ = some (.slice A ds.length c) := cellOf h2.at_ 1 rfl
       have hne2 : ¬ w.heap.size + 1 = wb := by omega
       have c31 : W3.cell? ⟨wb, 1, none⟩ = some (.slice A ds.length c) := cellOf HA3.out 1 rfl
       have c31' := fun o => cellA o c31
       have HLD3 := hide hld3
       have HD3 := hide hd3
       have HK3 := hide hk3
       have HDK3 := hide hdk3
       have HB2 := hide hb2
       have HB3 := hide hb3
       have HO3 := hide ho3
       have HW3 := hide hW3
       clear hd2 hb2 hld2 h2 hld3 hd3 hb3 hk3 hdk3 ho3))
    | (at_builtin
       go_loud (
       rw [← HW3.out]
       refine wpList_append_any _ rfl (.tmp 65) (.tmp 67) 184 rfl B 235 i0 (.pointer none) 1 8 Tryz.underlying184 HI0.out HI1.out HI2.out HI3.out rfl (by decide) (.slice A ds.length c) ds.length (ds.map dptr) rfl (HDK3.out.alloc _) (w2.heap.size + 1) (some ⟨w2.heap.size, 0, none⟩) 1 1 [.pointer (some ⟨w.heap.size + 1, 0, none⟩)] rfl ⟨rfl, fun _ => ⟨_, rfl, Nat.lt_succ_self _, fun j u hu => by rw [Addr.add_lit, ← hs32]; exact (Blk.new W3 235 #[.pointer (some ⟨w.heap.size + 1, 0, none⟩)]).range (cur := [.pointer (some ⟨w.heap.size + 1, 0, none⟩)]) (o := 0) rfl j u hu⟩⟩ (fun u hu => by rw [List.mem_singleton.1 hu]; rfl) (by unfold maxLen; omega) (by omega) (by have := HB2.out.size; have := HB3.out.size; simp only [World.size_alloc]; omega) ?_
       intro v' w4 hown4 hgr4 hat4
       obtain ⟨A4, c4, rfl, _⟩ := ownN_form hown4
       have hoA : Only (fun y => some y = (Value.slice A ds.length c).ownBlock) W3 w4 := Only.grown ((Only.refl _ _).alloc _) hgr4 (fun g e => .inl e.symm)
       have hfA : ∀ {y : Nat} {T : TypeId} {cs : Array Value}, Blk W3 y T cs → T ≠ 235 → ¬ some y = (Value.slice A ds.length c).ownBlock := fun hy hT e => own_blk_ne HDK3.out hy hT.symm e.symm
       have hat4' := HA3.out.only hoA (hfA HA3.out (by decide))
       have c40 : w4.cell? ⟨wb, 1, none⟩ = some (.slice A ds.length c) := cellOf hat4' 1 rfl
       have f40 : w4.frozen? ⟨wb, 1, none⟩ = false := hat4'.frozen 1
       have HOA := hide hoA
       have HFA := hide (show ∀ y T cs, Blk W3 y T cs → T ≠ 235 → ¬ some y = (Value.slice A ds.length c).ownBlock from fun y T cs => hfA)
       have HAT4 := hide hat4'
       have HOWN4 := hide hown4
       clear hown4 hgr4 hat4 hoA hfA hat4' c31 c31')))
  go_ret
  have hs2 := HB2.out.size
  have hs3 := HO3.out.size
  have hs4 := HOA.out.size
  have ho5 : Only (· = wb) w4 (w4.setCell ⟨wb, 1, none⟩ (.slice A4 (ds.length + 1) c4)) := Only.set1 _ _ _ _
  have hfp : ∀ {y : Nat} {T : TypeId} {cs : Array Value}, Blk w4 y T cs → T ≠ 186 → ¬ y = wb := fun hy hT e => by subst e; exact Blk.ne_ hy HAT4.out hT rfl
  have hnf : ∀ d ∈ ds, ∀ y, d.has y → y < w.heap.size + 1 := by
    intro d hd y hy
    obtain ⟨s1, m1, by1, kM1, kW1, k0⟩ := H1.out.each d hd
    have hlt := k0.has_lt hy
    rcases Nat.lt_or_ge y (w.heap.size + 1) with k | k
    · exact k
    · have e : y = w.heap.size + 1 := by omega
      subst e
      rcases hy with e | e | e
      · have := k0.at_
        rw [← e] at this
        have e2 : Blk W1 (w.heap.size + 1) 245 s1.cells := this
        unfold Blk at e2
        have e3 : Blk W1 (w.heap.size + 1) 245 _ := HLD.out
        unfold Blk at e3
        rw [e2] at e3
        injection e3 with e3
        injection e3 with e3
        have e4 := congrArg (fun a : Array Value => a[0]?) e3
        simp [LdS.cells] at e4
      · have := k0.dk.at_
        rw [← e] at this
        exact absurd rfl (Blk.ne_ this HLD.out (by decide))
      · have := k0.dk.blk
        rw [← e] at this
        exact absurd rfl (Blk.ne_ this HLD.out (by decide))
  have hold : ∀ d ∈ ds, DiskIs (w4.setCell ⟨wb, 1, none⟩ (.slice A4 (ds.length + 1) c4)) B N d := by
    intro d hd
    obtain ⟨s1, m1, by1, kM1, kW1, k0⟩ := H1.out.each d hd
    have k1 := k0.only (fp := fun _ => False) (Only.of_below HB2.out) id id id (fun _ _ _ => id)
    have k2 := k1.only HO3.out (by have := hnf d hd d.p (.inl rfl); omega) (by have := hnf d hd d.db (.inr (.inl rfl)); omega) (by have := hnf d hd d.g (.inr (.inr rfl)); omega) (fun x cs hx e => by
      subst e; exact Blk.ne_ hx (HLD.out.below HB2.out HLD.out.lt) (by decide) rfl)
    have k3 := k2.only HOA.out (HFA.out _ _ _ k2.at_ (by decide)) (HFA.out _ _ _ k2.dk.at_ (by decide)) (HFA.out _ _ _ k2.dk.blk (by decide)) (fun x cs hx => HFA.out _ _ _ hx (by decide))
    exact ⟨s1, m1, by1, kM1, kW1, k3.only ho5 (hfp k3.at_ (by decide)) (hfp k3.dk.at_ (by decide)) (hfp k3.dk.blk (by decide)) (fun x cs hx => hfp hx (by decide))⟩
  have hldA := HLD3.out.only HOA.out (HFA.out _ _ _ HLD3.out (by decide))
  have hl5 := Blk.only hldA ho5 (hfp hldA (by decide))
  have hdA := HD3.out.only HOA.out (fun y hy e => by
    rcases hy with k | k | k
    · subst k; exact HFA.out _ _ _ HD3.out.at_ (by decide) e
    · subst k; exact HFA.out _ _ _ HD3.out.blk (by decide) e
    · cases k)
  have hd5 := hdA.only ho5 (fun y hy e => by
    rcases hy with k | k | k
    · subst k; exact hfp hdA.at_ (by decide) e
    · subst k; exact hfp hdA.blk (by decide) e
    · cases k)
  have hnew : DiskIs (w4.setCell ⟨wb, 1, none⟩ (.slice A4 (ds.length + 1) c4)) B N ⟨w.heap.size + 1, b2, g2⟩ := DiskIs.fresh hl5 hd5 ⟨by omega, by omega, by omega⟩ (blocksN_lt a)
  refine ⟨rfl, ⟨keepv, .slice A4 (ds.length + 1) c4, xs, ds ++ [⟨w.heap.size + 1, b2, g2⟩], ⟨HAT4.out.set_ 1 _, ?_, ?_, ?_, ?_, by have := H1.out.kl; omega, by rw [List.length_append]; simp only [List.length_cons, List.length_nil]; omega, hlo⟩⟩, ?_⟩
  · exact ownN_only (ownN_only' HK3.out HOA.out (fun g e k => own_own_ne HK3.out HDK3.out (by decide) (e.trans k) (by rw [e]; simp))) ho5 (fun _ _ hx => hfp hx (by decide))
  · rw [List.length_append, List.map_append]
    exact ownN_only HOWN4.out ho5 (fun _ _ hx => hfp hx (by decide))
  · intro d hd
    rcases List.mem_append.1 hd with hd | hd
    · exact (hold d hd).more
    · rw [List.mem_singleton.1 hd]; exact hnew.more
  · rw [List.pairwise_append]
    refine ⟨H1.out.apart, List.pairwise_singleton _ _, fun e he f hf => ?_⟩
    rw [List.mem_singleton.1 hf]
    have := hnf e he e.p (.inl rfl)
    have := hnf e he e.db (.inr (.inl rfl))
    have := hnf e he e.g (.inr (.inr rfl))
    exact ⟨show e.p ≠ w.heap.size + 1 by omega, show e.db ≠ b2 by omega, show e.g ≠ g2 by omega⟩
  · have b1 : Below B w W3 := ((HB1.out.mono hB).trans (HB2.out.mono (by omega))).trans (HB3.out.mono (by omega))
    have b2 : Below B W3 w4 := HOA.out.to_below (by omega) (fun x hx => (ownN_lt HDK3.out hx.symm).1)
    exact (b1.trans b2).trans (ho5.to_below (by omega) (fun x hx => by omega))
end
end Go.Proofs.YtemondlgcmpbbaaGreatDoor
