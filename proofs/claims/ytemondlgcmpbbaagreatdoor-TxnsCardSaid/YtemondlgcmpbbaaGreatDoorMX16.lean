/- Wg Wh Wi Wk: merged. -/
import Derived.Test.YtemondlgcmpbbaaGreatDoorMX15
namespace Go.Proofs.YtemondlgcmpbbaaGreatDoor
open Go.RowKit
set_option maxRecDepth 100000
theorem zkn (all : Nat) (l : List Nat) (k n : Nat) (h : k < l.length) : zb1 all (l.drop k) n = if all <= 2 * (n + l[k]) then 0 else 1 + zb1 all (l.drop (k + 1)) (n + l[k]) := by
 rw [List.drop_eq_getElem_cons h]; rfl
set_option maxHeartbeats 400000 in
theorem zq3 (es : List (Str × Str)) (A : Option Addr) (c : Nat) (w : World) (h : SlC w 68 (.slice A es.length c) es.length (pcells es)) (h1 : 1 <= es.length) (hn : es.length <= 1000) (hs : (es.map lsz).sum <= 100000) :
   Calls Tryz.prog 126 #[.slice A es.length c, .func (.func 127) #[] #[]] w fun e w' => e = .returned (.int .i64 (zba (es.map lsz) : Nat)) /\ Below w.heap.size w w' := by
 obtain ⟨sz, hsz⟩ : ∃ l : List Nat, l = es.map lsz := ⟨_, rfl⟩
 have hszl : sz.length = es.length := by rw [hsz, List.length_map]
 have hall : ∀ k (hk : k < es.length), (es[k].1.size + es[k].2.size <= 100000) /\ (sz.take (k + 1)).sum = (sz.take k).sum + lsz es[k] /\ (sz.take k).sum <= 100000 /\ (sz.take (k + 1)).sum <= 100000 /\ zb1 sz.sum (sz.drop k) (sz.take k).sum = (if sz.sum <= 2 * ((sz.take k).sum + lsz es[k]) then 0 else 1 + zb1 sz.sum (sz.drop (k + 1)) (sz.take (k + 1)).sum) := by
  intro k hk
  have h1 := zcd sz (k + 1)
  have h2 := zcd sz k
  have h3 := zdl sz k (by omega)
  have h6 := zkn sz.sum sz k (sz.take k).sum (by omega)
  have h4 : sz[k]'(by omega) = lsz es[k] := by simp only [hsz, List.getElem_map]
  rw [h4] at h3 h6
  rw [hsz] at h1 h2
  rw [hsz] at h3 h6 ⊢
  refine ⟨?_, h3, by omega, by omega, ?_⟩
  . have h5 : lsz es[k] <= 100000 := by omega
    unfold lsz at h5
    omega
  . rw [h6, h3]
 have hsum := zlx es A c w h hn hs
 rw [<- hsz] at hsum ⊢
 have hs' : sz.sum <= 100000 := by rw [hsz]; exact hs
 have H := zaa h
 have HALL := zaa hall
 have HSL := zaa hszl
 have HSUM := zaa hsum
 have HS := zaa hs'
 clear h hall hszl hs hsum hs' hsz
 obtain ⟨n, hn'⟩ : ∃ n, n = es.length := ⟨_, rfl⟩
 obtain ⟨al, hal⟩ : ∃ al, al = sz.sum := ⟨_, rfl⟩
 have q0 : al <= 100000 := by rw [hal]; exact HS.out
 rw [<- hn'] at hn h1 HSUM ⊢
 rw [<- hal] at HSUM HALL
 have HN := zaa hn'
 have HAL := zaa hal
 clear hn' hal
 go_enter Tryz.func126, Tryz.ntmps126
 go_wp2_with (go_at_call 168; refine HSUM.out.mono ?_; rintro e w1 ⟨rfl, hb0⟩)
 go_loopw [6, 14] (fun s i wr => ∃ k : Nat, k <= n /\ i = .int .i64 k /\ s = .int .i64 ((sz.take k).sum : Nat) /\ zb1 al sz 0 = k + zb1 al (sz.drop k) (sz.take k).sum /\ (k = 0 \/ 2 * (sz.take k).sum < al) /\ Below w.heap.size w wr) (fun _ i _ => n - (intOf i).toNat)
 case atStart => exact ⟨0, by omega, rfl, rfl, by simp, .inl rfl, hb0⟩
 case round =>
  obtain ⟨k, hk, rfl, rfl, hx, hor, hb⟩ := hrel
  by_cases hlt : k < n
  . have hk' : k < es.length := by have := HN.out; omega
    obtain ⟨g, o, u, v, hA, hu, hv, c1, c2, hg⟩ := (HN.out ▸ H.out).cells_at hb hlt
    obtain ⟨z1, z2, z3, z4, z5⟩ := HALL.out k hk'
    have hc := zcz es k hk'
    rw [hc.1] at hu
    rw [hc.2] at hv
    injection hu with hu
    injection hv with hv
    subst hu
    subst hv
    subst hA
    have HXX := zaa hx
    have HOR := zaa hor
    have Z1 := zaa z1
    have Z2 := zaa z2
    have Z3 := zaa z3
    have Z4 := zaa z4
    have Z5 := zaa z5
    have hgr : g < wr.heap.size := Nat.lt_of_lt_of_le hg hb.size
    clear hc z1 z2 z3 z4 z5 hx hor
    obtain ⟨sk, hsk⟩ : ∃ s, s = (sz.take k).sum := ⟨_, rfl⟩
    have q1 : sk <= 100000 := by rw [hsk]; exact Z3.out
    rw [<- hsk]
    rw [<- hsk] at Z5 HOR HXX
    have HSK := zaa hsk
    clear hsk
    obtain ⟨z, hz⟩ : ∃ z, z = lsz es[k] := ⟨_, rfl⟩
    have q2 : z <= 100000 := by have := Z2.out; have := Z4.out; omega
    rw [<- hz] at Z5
    have HZ := zaa hz
    clear hz
    have hnew : Below w.heap.size w wr := hb
    have hsz' : w.heap.size <= wr.heap.size := hb.size
    by_cases hge : al <= 2 * (sk + z)
    . have hge' : ¬ (2 * ((sk : Int) + (z : Int)) < (al : Int)) := by omega
      have hge2 : (al : Int) <= 2 * ((sk : Int) + (z : Int)) := by omega
      go_wp2_with (go_at_call 127; refine (zfj es[k].1 es[k].2 z _ Z1.out HZ.out).mono ?_; rintro e w1 ⟨rfl, hb1⟩)
      all_goals
       go_ret
       refine ⟨zdu ?_, ?_⟩
       . have h5 := Z5.out
         rw [if_pos hge] at h5
         have h6 := HXX.out
         rw [h5] at h6
         unfold zba
         rw [<- HAL.out, h6, HSL.out, <- HN.out]
         omega
       . refine (hb.alloc hsz' _).trans (hb1.mono ?_)
         simp
         omega
    . have hge' : 2 * ((sk : Int) + (z : Int)) < (al : Int) := by omega
      have hge2 : ¬ (al : Int) <= 2 * ((sk : Int) + (z : Int)) := by omega
      go_wp2_with (go_at_call 127; refine (zfj es[k].1 es[k].2 z _ Z1.out HZ.out).mono ?_; rintro e w1 ⟨rfl, hb1⟩)
      go_roundw
      case rel =>
       have h2 := Z2.out
       rw [<- HSK.out, <- HZ.out] at h2
       refine ⟨k + 1, by omega, by go_num, ?_, ?_, .inr (by rw [h2]; omega), ?_⟩
       . rw [h2]
         go_num
       . have h5 := Z5.out
         rw [if_neg hge] at h5
         have h6 := HXX.out
         omega
       . refine (hb.alloc hsz' _).trans (hb1.mono ?_)
         simp
         omega
      case measure => simp [intOf]; omega
  . exfalso
    have hkn : k = n := by omega
    have h7 : (sz.take k).sum = al := by rw [List.take_of_length_le (by have := HSL.out; have := HN.out; omega)]; exact HAL.out.symm
    rcases hor with h8 | h8 <;> omega
set_option maxHeartbeats 400000 in
theorem zso {K : Type} (es : List (Str × K)) (bs : List Nat) (A : Option Addr) (c : Nat) (w : World) (h : SlC w 139 (.slice A es.length c) es.length (kcells es bs)) (h1 : 1 <= es.length) (hn : es.length <= 1000) (hs : (es.map ksz).sum <= 100000) (hbs : bs.length = es.length) :
   Calls Tryz.prog 129 #[.slice A es.length c, .func (.func 130) #[] #[]] w fun e w' => e = .returned (.int .i64 (zba (es.map ksz) : Nat)) /\ Below w.heap.size w w' := by
 obtain ⟨sz, hsz⟩ : ∃ l : List Nat, l = es.map ksz := ⟨_, rfl⟩
 have hszl : sz.length = es.length := by rw [hsz, List.length_map]
 have hall : ∀ k (hk : k < es.length), (es[k].1.size <= 100000) /\ (sz.take (k + 1)).sum = (sz.take k).sum + ksz es[k] /\ (sz.take k).sum <= 100000 /\ (sz.take (k + 1)).sum <= 100000 /\ zb1 sz.sum (sz.drop k) (sz.take k).sum = (if sz.sum <= 2 * ((sz.take k).sum + ksz es[k]) then 0 else 1 + zb1 sz.sum (sz.drop (k + 1)) (sz.take (k + 1)).sum) := by
  intro k hk
  have h1 := zcd sz (k + 1)
  have h2 := zcd sz k
  have h3 := zdl sz k (by omega)
  have h6 := zkn sz.sum sz k (sz.take k).sum (by omega)
  have h4 : sz[k]'(by omega) = ksz es[k] := by simp only [hsz, List.getElem_map]
  rw [h4] at h3 h6
  rw [hsz] at h1 h2
  rw [hsz] at h3 h6 ⊢
  refine ⟨?_, h3, by omega, by omega, ?_⟩
  . have h5 : ksz es[k] <= 100000 := by omega
    unfold ksz at h5
    omega
  . rw [h6, h3]
 have hsum := zod es bs A c w h hn hs hbs
 rw [<- hsz] at hsum ⊢
 have hs' : sz.sum <= 100000 := by rw [hsz]; exact hs
 have H := zaa h
 have HALL := zaa hall
 have HSL := zaa hszl
 have HSUM := zaa hsum
 have HS := zaa hs'
 clear h hall hszl hs hsum hs' hsz
 obtain ⟨n, hn'⟩ : ∃ n, n = es.length := ⟨_, rfl⟩
 obtain ⟨al, hal⟩ : ∃ al, al = sz.sum := ⟨_, rfl⟩
 have q0 : al <= 100000 := by rw [hal]; exact HS.out
 rw [<- hn'] at hn h1 HSUM ⊢
 rw [<- hal] at HSUM HALL
 have HN := zaa hn'
 have HAL := zaa hal
 clear hn' hal
 go_enter Tryz.func129, Tryz.ntmps129
 go_wp2_with (go_at_call 169; refine HSUM.out.mono ?_; rintro e w1 ⟨rfl, hb0⟩)
 go_loopw [6, 14] (fun s i wr => ∃ k : Nat, k <= n /\ i = .int .i64 k /\ s = .int .i64 ((sz.take k).sum : Nat) /\ zb1 al sz 0 = k + zb1 al (sz.drop k) (sz.take k).sum /\ (k = 0 \/ 2 * (sz.take k).sum < al) /\ Below w.heap.size w wr) (fun _ i _ => n - (intOf i).toNat)
 case atStart => exact ⟨0, by omega, rfl, rfl, by simp, .inl rfl, hb0⟩
 case round =>
  obtain ⟨k, hk, rfl, rfl, hx, hor, hb⟩ := hrel
  by_cases hlt : k < n
  . have hk' : k < es.length := by have := HN.out; omega
    have hbk : k < bs.length := by omega
    obtain ⟨g, o, u, v, hA, hu, hv, c1, c2, hg⟩ := (HN.out ▸ H.out).cells_at hb hlt
    obtain ⟨z1, z2, z3, z4, z5⟩ := HALL.out k hk'
    have hc := zco es bs k hk' hbk
    rw [hc.1] at hu
    rw [hc.2] at hv
    injection hu with hu
    injection hv with hv
    subst hu
    subst hv
    subst hA
    have HXX := zaa hx
    have HOR := zaa hor
    have Z1 := zaa z1
    have Z2 := zaa z2
    have Z3 := zaa z3
    have Z4 := zaa z4
    have Z5 := zaa z5
    have hgr : g < wr.heap.size := Nat.lt_of_lt_of_le hg hb.size
    clear hc z1 z2 z3 z4 z5 hx hor
    obtain ⟨sk, hsk⟩ : ∃ s, s = (sz.take k).sum := ⟨_, rfl⟩
    have q1 : sk <= 100000 := by rw [hsk]; exact Z3.out
    rw [<- hsk]
    rw [<- hsk] at Z5 HOR HXX
    have HSK := zaa hsk
    clear hsk
    obtain ⟨z, hz⟩ : ∃ z, z = ksz es[k] := ⟨_, rfl⟩
    have q2 : z <= 100000 := by have := Z2.out; have := Z4.out; omega
    rw [<- hz] at Z5
    have HZ := zaa hz
    clear hz
    have hnew : Below w.heap.size w wr := hb
    have hsz' : w.heap.size <= wr.heap.size := hb.size
    by_cases hge : al <= 2 * (sk + z)
    . have hge' : ¬ (2 * ((sk : Int) + (z : Int)) < (al : Int)) := by omega
      have hge2 : (al : Int) <= 2 * ((sk : Int) + (z : Int)) := by omega
      go_wp2_with (go_at_call 130; refine (zf0 es[k].1 (bs[k]'hbk) z _ Z1.out HZ.out).mono ?_; rintro e w1 ⟨rfl, hb1⟩)
      all_goals
       go_ret
       refine ⟨zdu ?_, ?_⟩
       . have h5 := Z5.out
         rw [if_pos hge] at h5
         have h6 := HXX.out
         rw [h5] at h6
         unfold zba
         rw [<- HAL.out, h6, HSL.out, <- HN.out]
         omega
       . refine (hb.alloc hsz' _).trans (hb1.mono ?_)
         simp
         omega
    . have hge' : 2 * ((sk : Int) + (z : Int)) < (al : Int) := by omega
      have hge2 : ¬ (al : Int) <= 2 * ((sk : Int) + (z : Int)) := by omega
      go_wp2_with (go_at_call 130; refine (zf0 es[k].1 (bs[k]'hbk) z _ Z1.out HZ.out).mono ?_; rintro e w1 ⟨rfl, hb1⟩)
      go_roundw
      case rel =>
       have h2 := Z2.out
       rw [<- HSK.out, <- HZ.out] at h2
       refine ⟨k + 1, by omega, by go_num, ?_, ?_, .inr (by rw [h2]; omega), ?_⟩
       . rw [h2]
         go_num
       . have h5 := Z5.out
         rw [if_neg hge] at h5
         have h6 := HXX.out
         omega
       . refine (hb.alloc hsz' _).trans (hb1.mono ?_)
         simp
         omega
      case measure => simp [intOf]; omega
  . exfalso
    have hkn : k = n := by omega
    have h7 : (sz.take k).sum = al := by rw [List.take_of_length_le (by have := HSL.out; have := HN.out; omega)]; exact HAL.out.symm
    rcases hor with h8 | h8 <;> omega
theorem zhh {w : World} {T : TypeId} {g o c n : Nat} {xs : List Value} (h : SlC w T (.slice (some ⟨g, o, none⟩) n c) n xs) (k : Nat) (hk : k <= n) :
   Reads w w.heap.size 2 (some ⟨g, o, none⟩) k (xs.take (k * 2)) /\ Reads w w.heap.size 2 (some ⟨g, o + k * 2, none⟩) (n - k) (xs.drop (k * 2)) := by
 have hr := h.reads
 have hl := hr.1
 refine ⟨⟨by rw [List.length_take]; omega, fun h0 => ?_⟩, ⟨by rw [List.length_drop]; omega, fun h0 => ?_⟩⟩
 . obtain ⟨ad, hA, hb, hc⟩ := hr.2 (by omega)
   injection hA with hA
   subst hA
   refine ⟨_, rfl, hb, fun j u hu => hc j u ?_⟩
   rw [List.getElem?_take] at hu
   split at hu
   . exact hu
   . cases hu
 . obtain ⟨ad, hA, hb, hc⟩ := hr.2 (by omega)
   injection hA with hA
   subst hA
   refine ⟨_, rfl, hb, fun j u hu => ?_⟩
   rw [List.getElem?_drop] at hu
   have := hc _ u hu
   rw [Addr.add_lit] at this ⊢
   rw [Nat.add_assoc]
   exact this
theorem znm (es : List (Str × Str)) (k : Nat) : (pcells es).take (k * 2) = pcells (es.take k) := by
 induction es generalizing k with
 | nil => simp [pcells]
 | cons e es ih =>
   cases k with
   | zero => simp [pcells]
   | succ k =>
     have := ih k
     simp only [pcells, List.take_succ_cons, List.flatMap_cons, show (k + 1) * 2 = k * 2 + 1 + 1 by omega, List.cons_append, List.nil_append] at *
     rw [this]
theorem znn (es : List (Str × Str)) (k : Nat) : (pcells es).drop (k * 2) = pcells (es.drop k) := by
 induction es generalizing k with
 | nil => simp [pcells]
 | cons e es ih =>
   cases k with
   | zero => simp [pcells]
   | succ k =>
     have := ih k
     simp only [pcells, List.drop_succ_cons, List.flatMap_cons, show (k + 1) * 2 = k * 2 + 1 + 1 by omega, List.cons_append, List.nil_append] at *
     exact this
theorem zh7 {K : Type} : ∀ (es : List (Str × K)) (bs : List Nat) (k : Nat), (kcells es bs).take (k * 2) = kcells (es.take k) (bs.take k)
 | [], _, k => by simp [kcells]
 | e :: es, [], k => by cases k <;> simp [kcells]
 | e :: es, b :: bs, 0 => by simp [kcells]
 | e :: es, b :: bs, k + 1 => by
   have := zh7 es bs k
   simp only [kcells, List.take_succ_cons, show (k + 1) * 2 = k * 2 + 1 + 1 by omega]
   rw [this]
theorem zf1 {K : Type} : ∀ (es : List (Str × K)) (bs : List Nat) (k : Nat), (kcells es bs).drop (k * 2) = kcells (es.drop k) (bs.drop k)
 | [], _, k => by simp [kcells]
 | e :: es, [], k => by cases k <;> simp [kcells]
 | e :: es, b :: bs, 0 => by simp [kcells]
 | e :: es, b :: bs, k + 1 => by
   have := zf1 es bs k
   simp only [kcells, List.drop_succ_cons, show (k + 1) * 2 = k * 2 + 1 + 1 by omega]
   exact this
theorem zh8 {K : Type} (es : List (Str × K)) (h : 0 < es.length) : zas es = es[0].1 := by
 cases es with
 | nil => simp at h
 | cons e es => rfl
theorem za3 {w : World} {a : Addr} {v : Value} (o : Obj) (h : w.cell? a = some v) : (w.alloc o).cell? a = some v :=
 (((Below.refl w.heap.size w).alloc (Nat.le_refl _) o).cell (World.block_lt_of_cell? w a h)).trans h
theorem zb3 {w : World} {base s n : Nat} {T : TypeId} {v : Value} {xs : List Value} (h : w.ownsRow base T s v n xs) {g : Nat} (hg : g < base) : v.ownBlock ≠ some g := by
 rcases h.2 with ⟨rfl, _⟩ | ⟨G, cap, cur, rfl, hb, _⟩
 . simp [Value.ownBlock]
 . simp only [Value.ownBlock, ne_eq, Option.some.injEq]; omega
set_option maxHeartbeats 1600000 in
theorem zno (es : List (Str × Str)) (b blk gen g o c k c2 : Nat) (d : Bool) (A2 : Option Addr) (w : World) (hnode : zer w b blk gen d (.slice (some ⟨g, o, none⟩) es.length c) (.slice A2 0 c2)) (hps : SlC w 68 (.slice (some ⟨g, o, none⟩) es.length c) es.length (pcells es))
   (hk : zba (es.map lsz) = k) (h1 : 1 <= k) (h2 : k < es.length) (hnc : es.length <= c) (_hcm : c <= maxLen) (hn : es.length <= 1000) (hs : (es.map lsz).sum <= 100000) :
   Calls Tryz.prog 86 #[P b] w fun e w' => ∃ A1 d1 A2 d2, e = .returned (.tuple #[P (w.heap.size + 1), .agg #[.string (zas (es.drop k)), P (w.heap.size + 1 + 1)]]) /\
    Blk w' (w.heap.size + 1) 137 #[.int .i64 0, .int .u32 0, .bool true, .slice A1 k d1, .slice none 0 0] /\ Blk w' (w.heap.size + 1 + 1) 137 #[.int .i64 0, .int .u32 0, .bool true, .slice A2 (es.length - k) d2, .slice none 0 0] /\
    w'.ownsRow w.heap.size 68 2 (.slice A1 k d1) k (pcells (es.take k)) /\ w'.ownsRow w.heap.size 68 2 (.slice A2 (es.length - k) d2) (es.length - k) (pcells (es.drop k)) /\ Below w.heap.size w w' := by
 have c3 : w.cell? ⟨b, 3, none⟩ = some (.slice (some ⟨g, o, none⟩) es.length c) := by rw [Blk.cell hnode]; rfl
 have hblt := Blk.lt hnode
 have hcut := fun (W : World) (hW : SlC W 68 (.slice (some ⟨g, o, none⟩) es.length c) es.length (pcells es)) => zhh hW k (by omega)
 rw [znm, znn] at hcut
 have hone1 := zcn (es.take k)
 have hone2 := zcn (es.drop k)
 unfold maxLen at _hcm
 have q1 : k <= c := by omega
 have q2 : ¬ c = k := by omega
 have q3 : k <= es.length := by omega
 have hl1 : k <= 1000 := by omega
 have hl2 : es.length - k <= 1000 := by omega
 have c3' := fun o1 o2 o3 => za3 o3 (za3 o2 (za3 o1 c3))
 have HCUT := zaa hcut
 have H1 := zaa hone1
 have H2 := zaa hone2
 have HN := zaa hnode
 have HP := zaa hps
 have HK := zaa hk
 have HS := zaa hs
 clear hcut hone1 hone2 hnode hps hk hs
 unfold P
 go_enter Tryz.func86, Tryz.ntmps86
 go_wp2_with (first
  | (go_at_call 81; refine (zdq b blk gen c2 d _ A2 _ (((HN.out.alloc _).alloc _).alloc _)).mono ?_; rintro e w' ⟨rfl, rfl⟩)
  | (go_at_call 126; refine (zq3 es _ c _ (HP.out.keep zj1 (Keep.of_below ((((Below.refl _ _).alloc (Nat.le_refl _) _).alloc (by simp) _).alloc (by simp; omega) _))) (by omega) hn HS.out).mono ?_; rintro e w1 ⟨rfl, hb1⟩; rw [HK.out]))
 have hz1 : w.heap.size + 1 + 1 + 1 <= w1.heap.size := by have := hb1.size; simp at this; omega
 have hw1 : Below w.heap.size w w1 := ((((Below.refl _ _).alloc (Nat.le_refl _) _).alloc (by simp) _).alloc (by simp; omega) _).trans (hb1.mono (by simp; omega))
 have g1 : Blk w1 (w.heap.size + 1) 137 #[.int .i64 0, .int .u32 0, .bool true, .slice none 0 0, .slice none 0 0] := Blk.below ((by have := Blk.new (w.alloc (Obj.cells #[.string ⟨#[]⟩, .pointer none] 139)) 137 #[.int .i64 0, .int .u32 0, .bool true, .slice none 0 0, .slice none 0 0]; simp only [World.size_alloc] at this; exact this.alloc _)) hb1 (by simp)
 have g2 : Blk w1 (w.heap.size + 1 + 1) 137 #[.int .i64 0, .int .u32 0, .bool true, .slice none 0 0, .slice none 0 0] := Blk.below ((by have := Blk.new ((w.alloc (Obj.cells #[.string ⟨#[]⟩, .pointer none] 139)).alloc (Obj.cells #[.int .i64 0, .int .u32 0, .bool true, .slice none 0 0, .slice none 0 0] 137)) 137 #[.int .i64 0, .int .u32 0, .bool true, .slice none 0 0, .slice none 0 0]; simp only [World.size_alloc] at this; exact this)) hb1 (by simp)
 have c31 : w1.cell? ⟨b, 3, none⟩ = some (.slice (some ⟨g, o, none⟩) es.length c) := (hw1.cell hblt).trans c3
 have hsl1 : SlC w1 68 (.slice (some ⟨g, o, none⟩) es.length c) es.length (pcells es) := HP.out.keep zj1 (Keep.of_below hw1)
 have HSL := zaa hsl1
 have G1 := zaa g1
 have G2 := zaa g2
 clear g1 g2 hsl1
 have hz2 : b < w1.heap.size := by omega
 have hne1 : (⟨w.heap.size + 1, 3, none⟩ : Addr) ≠ ⟨b, 3, none⟩ := fun e => by injection e with e; omega
 have hne2 : (⟨w.heap.size + 1 + 1, 3, none⟩ : Addr) ≠ ⟨b, 3, none⟩ := fun e => by injection e with e; omega
 go_region_held3 (fun w' => w'.cell? ⟨b, 3, none⟩ = some (.slice (some ⟨g, o, none⟩) es.length c)) (first | go_keep | (rw [hb2.cell hz2]; assumption) | (rw [hb3.cell (Nat.lt_of_lt_of_le hz2 hb2.size)]; rw [hb2.cell hz2]; assumption) | (rw [World.cell?_setCell_other _ _ _ _ hne1]; assumption) | (rw [World.cell?_setCell_other _ _ _ _ hne2]; assumption))
  (first
   | (go_at_call 128
      ((with_reducible refine (zfz (some ⟨g, o, none⟩) k c (pcells (es.take k)) _ (HCUT.out _ HSL.out).1.drew H1.out hl1 (by simp)).mono ?_)
       rintro e w2 ⟨A1', c1', rfl, hm1, ho1, hb2⟩
       have hb2' : Below w1.heap.size w1.drew w2 := hb2
       have hz3 : w1.heap.size <= w2.heap.size := hb2.size
       have hr2 := (((HCUT.out _ HSL.out).2.drew.below hb2').more hz3).drew))
   | (go_at_call 128
      ((with_reducible refine (zfz (some ⟨g, o + k * 2, none⟩) (es.length - k) (c - k) (pcells (es.drop k)) _ hr2 H2.out hl2 (by simp)).mono ?_)
       rintro e w3 ⟨A2', c2', rfl, hm2, ho2, hb3⟩
       have s1 : Blk w3 (w.heap.size + 1) 137 #[.int .i64 0, .int .u32 0, .bool true, .slice none 0 0, .slice none 0 0] := (G1.out.drew.below hb2 (by show _ < w1.heap.size; omega)).below hb3 (by have := hb2.size; have : w1.heap.size <= w2.heap.size := this; omega)
       have s2 : Blk w3 (w.heap.size + 1 + 1) 137 #[.int .i64 0, .int .u32 0, .bool true, .slice none 0 0, .slice none 0 0] := (G2.out.drew.below hb2 (by show _ < w1.heap.size; omega)).below hb3 (by have := hb2.size; have : w1.heap.size <= w2.heap.size := this; omega)
       have x1 : w3.cell? ⟨w.heap.size + 1, 3, none⟩ = some (.slice none 0 0) := by rw [s1.cell]; rfl
       have x2 : w3.cell? ⟨w.heap.size + 1 + 1, 3, none⟩ = some (.slice none 0 0) := by rw [s2.cell]; rfl
       have y1 : w3.frozen? ⟨w.heap.size + 1, 3, none⟩ = false := s1.frozen 3
       have y2 : w3.frozen? ⟨w.heap.size + 1 + 1, 3, none⟩ = false := s2.frozen 3
       have S1 := zaa s1
       have S2 := zaa s2
       clear s1 s2)))
 go_wp2_with fail
 have hz5 : w2.heap.size <= w3.heap.size := hb3.size
 have g0 : Blk w3 w.heap.size 139 #[.string ⟨#[]⟩, .pointer none] := by
  have h0 : Blk w1 w.heap.size 139 #[.string ⟨#[]⟩, .pointer none] := Blk.below (((Blk.new w 139 #[.string ⟨#[]⟩, .pointer none]).alloc _).alloc _) hb1 (by simp; omega)
  exact (h0.drew.below hb2' (by omega)).below hb3 (by omega)
 obtain ⟨g2, o2, u, v, hA2, hu, hv, e1, e2, hg2⟩ := (SlC.of_own ho2).cells_at (Below.refl _ _) (k := 0) (by omega)
 subst hA2
 obtain ⟨G, cur, hGe, hGe0, hGb⟩ : ∃ G cur, (Value.slice (some ⟨g2, o2, none⟩) (es.length - k) c2' : Value) = .slice (some ⟨G, 0, none⟩) (es.length - k) c2' /\ w2.heap.size <= G /\ Blk w3 G 68 cur := by
  rcases ho2.2 with ⟨h, _⟩ | ⟨G, cap, cur, hv, hb, hg, _⟩
  . cases h
  . injection hv with h1 h2 h3
    exact ⟨G, cur, by rw [h1], hb, hg⟩
 injection hGe with hGe
 injection hGe with hGe
 injection hGe with hGe ho
 subst hGe
 subst ho
 have hge : w2.heap.size <= g2 := hGe0
 have n1 : g2 ≠ w.heap.size := by omega
 have n2 : g2 ≠ w.heap.size + 1 := by omega
 have n3 : g2 ≠ w.heap.size + 1 + 1 := by omega
 have hk0 := zcz (es.drop k) 0 (by rw [List.length_drop]; omega)
 rw [hk0.1] at hu
 injection hu with hu
 subst hu
 rw [<- zh8] at e1
 obtain ⟨w4, hw4⟩ : ∃ w4, w4 = ((w3.setCell ⟨w.heap.size + 1, 3, none⟩ (.slice A1' k c1')).setCell ⟨w.heap.size + 1 + 1, 3, none⟩ (.slice (some ⟨g2, 0, none⟩) (es.length - k) c2')) := ⟨_, rfl⟩
 rw [<- hw4]
 have v1 : w4.cell? ⟨w.heap.size + 1 + 1, 3, none⟩ = some (.slice (some ⟨g2, 0, none⟩) (es.length - k) c2') := by
  rw [hw4]
  have := ((S2.out.far (p := ⟨w.heap.size + 1, 3, none⟩) (by simp) (.slice A1' k c1')).set_ 3 (.slice (some ⟨g2, 0, none⟩) (es.length - k) c2'))
  rw [this.cell]; rfl
 have v2 : w4.cell? ⟨g2, 0, none⟩ = some (.string (zas (es.drop k))) := by
  rw [hw4, World.cell?_setCell_other _ _ _ _ (fun e => by injection e with e; omega), World.cell?_setCell_other _ _ _ _ (fun e => by injection e with e; omega)]
  exact e1
 have v3 : Blk w4 w.heap.size 139 #[.string ⟨#[]⟩, .pointer none] := by
  rw [hw4]
  exact (g0.far (by simp) _).far (by simp; omega) _
 have v4 : w4.cell? ⟨w.heap.size, 0, none⟩ = some (.string ⟨#[]⟩) := by rw [v3.cell]; rfl
 have v5 : w4.cell? ⟨w.heap.size, 1, none⟩ = some (.pointer none) := by rw [v3.cell]; rfl
 have v6 : w4.frozen? ⟨w.heap.size, 0, none⟩ = false := v3.frozen 0
 have v7 : w4.frozen? ⟨w.heap.size, 1, none⟩ = false := v3.frozen 1
 have V3 := zaa v3
 have W4 := zaa hw4
 have G0 := zaa g0
 have HG := zaa hGb
 clear v3 hw4 g0 hGb x1 x2 y1 y2 e1 e2 hr2
 go_region
 obtain ⟨w5, hw5⟩ : ∃ w5, w5 = ((w4.setCell ⟨w.heap.size, 0, none⟩ (.string (zas (es.drop k)))).setCell ⟨w.heap.size, 1, none⟩ (P (w.heap.size + 1 + 1))) := ⟨_, rfl⟩
 unfold P at hw5
 rw [<- hw5]
 have f0 : Blk w5 w.heap.size 139 #[.string (zas (es.drop k)), P (w.heap.size + 1 + 1)] := by
  rw [hw5]
  exact (V3.out.set_ 0 _).set_ 1 _
 have f1 : w5.cell? ⟨w.heap.size, 0, none⟩ = some (.string (zas (es.drop k))) := by rw [f0.cell]; rfl
 have f2 : w5.cell? ⟨w.heap.size, 1, none⟩ = some (P (w.heap.size + 1 + 1)) := by rw [f0.cell]; rfl
 have W5 := zaa hw5
 clear hw5 f0
 unfold P at f2
 go_wp2_with fail
 refine bodyPost_ret (v := .tuple #[P (w.heap.size + 1), .agg #[.string (zas (es.drop k)), P (w.heap.size + 1 + 1)]]) (by simp [results, Tryz.results86, go_sem, f1, f2]) rfl ⟨rfl, A1', c1', ?_, some ⟨g2, 0, none⟩, c2', ?_, ?_, ?_, ?_⟩
 . rw [W5.out, W4.out]
   exact ((((S1.out.set_ 3 _).far (by simp) _).far (by simp) _).far (by simp) _)
 . rw [W5.out, W4.out]
   exact ((((S2.out.far (by simp) _).set_ 3 _).far (by simp; omega) _).far (by simp; omega) _)
 . rw [W5.out, W4.out]
   have h := zat ho1 hb3
   have hzz : w1.heap.size <= w2.heap.size := hz3
   have m0 := zb3 h (g := w.heap.size) (by first | (show _ < w1.heap.size; omega) | (show _ < w2.heap.size; omega))
   have m1 := zb3 h (g := w.heap.size + 1) (by first | (show _ < w1.heap.size; omega) | (show _ < w2.heap.size; omega))
   have m2 := zb3 h (g := w.heap.size + 1 + 1) (by first | (show _ < w1.heap.size; omega) | (show _ < w2.heap.size; omega))
   exact zct (ownsRow_setCell_other (ownsRow_setCell_other (ownsRow_setCell_other (ownsRow_setCell_other h m1 _) m2 _) m0 _) m0 _) (by have := hw1.size; exact this)
 . rw [W5.out, W4.out]
   have h := ho2
   have hzz : w1.heap.size <= w2.heap.size := hz3
   have m0 := zb3 h (g := w.heap.size) (by first | (show _ < w1.heap.size; omega) | (show _ < w2.heap.size; omega))
   have m1 := zb3 h (g := w.heap.size + 1) (by first | (show _ < w1.heap.size; omega) | (show _ < w2.heap.size; omega))
   have m2 := zb3 h (g := w.heap.size + 1 + 1) (by first | (show _ < w1.heap.size; omega) | (show _ < w2.heap.size; omega))
   exact zct (ownsRow_setCell_other (ownsRow_setCell_other (ownsRow_setCell_other (ownsRow_setCell_other h m1 _) m2 _) m0 _) m0 _) (by have := hw1.size; have : w1.heap.size <= w2.heap.size := hz3; show w.heap.size <= w2.heap.size; omega)
 . rw [W5.out, W4.out]
   have h1 : Below w1.heap.size w1 w2 := (Below.refl _ w1).drew.trans hb2'
   have h2 : Below w.heap.size w w3 := (hw1.trans (h1.mono (by omega))).trans (hb3.mono (by omega))
   exact ((((h2.setCell (p := ⟨w.heap.size + 1, 3, none⟩) (Nat.le_add_right _ _) _).setCell (p := ⟨w.heap.size + 1 + 1, 3, none⟩) (Nat.le_add_right _ 2) _).setCell (p := ⟨w.heap.size, 0, none⟩) (Nat.le_refl _) _).setCell (p := ⟨w.heap.size, 1, none⟩) (Nat.le_refl _) _).drew
set_option maxHeartbeats 1600000 in
theorem znp {K : Type} (es : List (Str × K)) (bs : List Nat) (hbs : bs.length = es.length) (b blk gen g o c k c2 : Nat) (d : Bool) (A2 : Option Addr) (w : World) (hnode : zer w b blk gen d (.slice A2 0 c2) (.slice (some ⟨g, o, none⟩) es.length c)) (hps : SlC w 139 (.slice (some ⟨g, o, none⟩) es.length c) es.length (kcells es bs))
   (hk : zba (es.map ksz) = k) (h1 : 1 <= k) (h2 : k < es.length) (hnc : es.length <= c) (_hcm : c <= maxLen) (hn : es.length <= 1000) (hs : (es.map ksz).sum <= 100000) :
   Calls Tryz.prog 86 #[P b] w fun e w' => ∃ A1 d1 A2 d2, e = .returned (.tuple #[P (w.heap.size + 1), .agg #[.string (zas (es.drop k)), P (w.heap.size + 1 + 1)]]) /\
    Blk w' (w.heap.size + 1) 137 #[.int .i64 0, .int .u32 0, .bool true, .slice none 0 0, .slice A1 k d1] /\ Blk w' (w.heap.size + 1 + 1) 137 #[.int .i64 0, .int .u32 0, .bool true, .slice none 0 0, .slice A2 (es.length - k) d2] /\
    w'.ownsRow w.heap.size 139 2 (.slice A1 k d1) k (kcells (es.take k) (bs.take k)) /\ w'.ownsRow w.heap.size 139 2 (.slice A2 (es.length - k) d2) (es.length - k) (kcells (es.drop k) (bs.drop k)) /\ Below w.heap.size w w' := by
 have c3 : w.cell? ⟨b, 4, none⟩ = some (.slice (some ⟨g, o, none⟩) es.length c) := by rw [Blk.cell hnode]; rfl
 have hblt := Blk.lt hnode
 have hcut := fun (W : World) (hW : SlC W 139 (.slice (some ⟨g, o, none⟩) es.length c) es.length (kcells es bs)) => zhh hW k (by omega)
 rw [zh7, zf1] at hcut
 have hone1 := zb0 (es.take k) (bs.take k)
 have hone2 := zb0 (es.drop k) (bs.drop k)
 unfold maxLen at _hcm
 have q1 : k <= c := by omega
 have q2 : ¬ c = k := by omega
 have q3 : k <= es.length := by omega
 have hl1 : k <= 1000 := by omega
 have hl2 : es.length - k <= 1000 := by omega
 have c3' := fun o1 o2 o3 => za3 o3 (za3 o2 (za3 o1 c3))
 have HCUT := zaa hcut
 have H1 := zaa hone1
 have H2 := zaa hone2
 have HN := zaa hnode
 have HP := zaa hps
 have HK := zaa hk
 have HS := zaa hs
 clear hcut hone1 hone2 hnode hps hk hs
 unfold P
 go_enter Tryz.func86, Tryz.ntmps86
 go_wp2_with (first
  | (go_at_call 81; refine (zee b blk gen es.length c d _ _ _ (((HN.out.alloc _).alloc _).alloc _) (by omega) hn).mono ?_; rintro e w' ⟨rfl, rfl⟩)
  | (go_at_call 129; refine (zso es bs _ c _ (HP.out.keep zj2 (Keep.of_below ((((Below.refl _ _).alloc (Nat.le_refl _) _).alloc (by simp) _).alloc (by simp; omega) _))) (by omega) hn HS.out hbs).mono ?_; rintro e w1 ⟨rfl, hb1⟩; rw [HK.out]))
 have hz1 : w.heap.size + 1 + 1 + 1 <= w1.heap.size := by have := hb1.size; simp at this; omega
 have hw1 : Below w.heap.size w w1 := ((((Below.refl _ _).alloc (Nat.le_refl _) _).alloc (by simp) _).alloc (by simp; omega) _).trans (hb1.mono (by simp; omega))
 have g1 : Blk w1 (w.heap.size + 1) 137 #[.int .i64 0, .int .u32 0, .bool true, .slice none 0 0, .slice none 0 0] := Blk.below ((by have := Blk.new (w.alloc (Obj.cells #[.string ⟨#[]⟩, .pointer none] 139)) 137 #[.int .i64 0, .int .u32 0, .bool true, .slice none 0 0, .slice none 0 0]; simp only [World.size_alloc] at this; exact this.alloc _)) hb1 (by simp)
 have g2 : Blk w1 (w.heap.size + 1 + 1) 137 #[.int .i64 0, .int .u32 0, .bool true, .slice none 0 0, .slice none 0 0] := Blk.below ((by have := Blk.new ((w.alloc (Obj.cells #[.string ⟨#[]⟩, .pointer none] 139)).alloc (Obj.cells #[.int .i64 0, .int .u32 0, .bool true, .slice none 0 0, .slice none 0 0] 137)) 137 #[.int .i64 0, .int .u32 0, .bool true, .slice none 0 0, .slice none 0 0]; simp only [World.size_alloc] at this; exact this)) hb1 (by simp)
 have c31 : w1.cell? ⟨b, 4, none⟩ = some (.slice (some ⟨g, o, none⟩) es.length c) := (hw1.cell hblt).trans c3
 have hsl1 : SlC w1 139 (.slice (some ⟨g, o, none⟩) es.length c) es.length (kcells es bs) := HP.out.keep zj2 (Keep.of_below hw1)
 have HSL := zaa hsl1
 have G1 := zaa g1
 have G2 := zaa g2
 clear g1 g2 hsl1
 have hz2 : b < w1.heap.size := by omega
 have hne1 : (⟨w.heap.size + 1, 4, none⟩ : Addr) ≠ ⟨b, 4, none⟩ := fun e => by injection e with e; omega
 have hne2 : (⟨w.heap.size + 1 + 1, 4, none⟩ : Addr) ≠ ⟨b, 4, none⟩ := fun e => by injection e with e; omega
 go_region_held3 (fun w' => w'.cell? ⟨b, 4, none⟩ = some (.slice (some ⟨g, o, none⟩) es.length c)) (first | go_keep | (rw [hb2.cell hz2]; assumption) | (rw [hb3.cell (Nat.lt_of_lt_of_le hz2 hb2.size)]; rw [hb2.cell hz2]; assumption) | (rw [World.cell?_setCell_other _ _ _ _ hne1]; assumption) | (rw [World.cell?_setCell_other _ _ _ _ hne2]; assumption))
  (first
   | (go_at_call 131
      ((with_reducible refine (zgo (some ⟨g, o, none⟩) k c (kcells (es.take k) (bs.take k)) _ (HCUT.out _ HSL.out).1.drew H1.out hl1 (by simp)).mono ?_)
       rintro e w2 ⟨A1', c1', rfl, hm1, ho1, hb2⟩
       have hb2' : Below w1.heap.size w1.drew w2 := hb2
       have hz3 : w1.heap.size <= w2.heap.size := hb2.size
       have hr2 := (((HCUT.out _ HSL.out).2.drew.below hb2').more hz3).drew))
   | (go_at_call 131
      ((with_reducible refine (zgo (some ⟨g, o + k * 2, none⟩) (es.length - k) (c - k) (kcells (es.drop k) (bs.drop k)) _ hr2 H2.out hl2 (by simp)).mono ?_)
       rintro e w3 ⟨A2', c2', rfl, hm2, ho2, hb3⟩
       have s1 : Blk w3 (w.heap.size + 1) 137 #[.int .i64 0, .int .u32 0, .bool true, .slice none 0 0, .slice none 0 0] := (G1.out.drew.below hb2 (by show _ < w1.heap.size; omega)).below hb3 (by have := hb2.size; have : w1.heap.size <= w2.heap.size := this; omega)
       have s2 : Blk w3 (w.heap.size + 1 + 1) 137 #[.int .i64 0, .int .u32 0, .bool true, .slice none 0 0, .slice none 0 0] := (G2.out.drew.below hb2 (by show _ < w1.heap.size; omega)).below hb3 (by have := hb2.size; have : w1.heap.size <= w2.heap.size := this; omega)
       have x1 : w3.cell? ⟨w.heap.size + 1, 4, none⟩ = some (.slice none 0 0) := by rw [s1.cell]; rfl
       have x2 : w3.cell? ⟨w.heap.size + 1 + 1, 4, none⟩ = some (.slice none 0 0) := by rw [s2.cell]; rfl
       have y1 : w3.frozen? ⟨w.heap.size + 1, 4, none⟩ = false := s1.frozen 4
       have y2 : w3.frozen? ⟨w.heap.size + 1 + 1, 4, none⟩ = false := s2.frozen 4
       have S1 := zaa s1
       have S2 := zaa s2
       clear s1 s2)))
 go_wp2_with fail
 have hz5 : w2.heap.size <= w3.heap.size := hb3.size
 have g0 : Blk w3 w.heap.size 139 #[.string ⟨#[]⟩, .pointer none] := by
  have h0 : Blk w1 w.heap.size 139 #[.string ⟨#[]⟩, .pointer none] := Blk.below (((Blk.new w 139 #[.string ⟨#[]⟩, .pointer none]).alloc _).alloc _) hb1 (by simp; omega)
  exact (h0.drew.below hb2' (by omega)).below hb3 (by omega)
 obtain ⟨g2, o2, u, v, hA2, hu, hv, e1, e2, hg2⟩ := (SlC.of_own ho2).cells_at (Below.refl _ _) (k := 0) (by omega)
 subst hA2
 obtain ⟨G, cur, hGe, hGe0, hGb⟩ : ∃ G cur, (Value.slice (some ⟨g2, o2, none⟩) (es.length - k) c2' : Value) = .slice (some ⟨G, 0, none⟩) (es.length - k) c2' /\ w2.heap.size <= G /\ Blk w3 G 139 cur := by
  rcases ho2.2 with ⟨h, _⟩ | ⟨G, cap, cur, hv, hb, hg, _⟩
  . cases h
  . injection hv with h1 h2 h3
    exact ⟨G, cur, by rw [h1], hb, hg⟩
 injection hGe with hGe
 injection hGe with hGe
 injection hGe with hGe ho
 subst hGe
 subst ho
 have hge : w2.heap.size <= g2 := hGe0
 have n1 : g2 ≠ w.heap.size := by omega
 have n2 : g2 ≠ w.heap.size + 1 := by omega
 have n3 : g2 ≠ w.heap.size + 1 + 1 := by omega
 have hk0 := zco (es.drop k) (bs.drop k) 0 (by rw [List.length_drop]; omega) (by rw [List.length_drop]; omega)
 rw [hk0.1] at hu
 injection hu with hu
 subst hu
 rw [<- zh8] at e1
 obtain ⟨w4, hw4⟩ : ∃ w4, w4 = ((w3.setCell ⟨w.heap.size + 1, 4, none⟩ (.slice A1' k c1')).setCell ⟨w.heap.size + 1 + 1, 4, none⟩ (.slice (some ⟨g2, 0, none⟩) (es.length - k) c2')) := ⟨_, rfl⟩
 rw [<- hw4]
 have v1 : w4.cell? ⟨w.heap.size + 1 + 1, 4, none⟩ = some (.slice (some ⟨g2, 0, none⟩) (es.length - k) c2') := by
  rw [hw4]
  have := ((S2.out.far (p := ⟨w.heap.size + 1, 4, none⟩) (by simp) (.slice A1' k c1')).set_ 4 (.slice (some ⟨g2, 0, none⟩) (es.length - k) c2'))
  rw [this.cell]; rfl
 have v2 : w4.cell? ⟨g2, 0, none⟩ = some (.string (zas (es.drop k))) := by
  rw [hw4, World.cell?_setCell_other _ _ _ _ (fun e => by injection e with e; omega), World.cell?_setCell_other _ _ _ _ (fun e => by injection e with e; omega)]
  exact e1
 have v3 : Blk w4 w.heap.size 139 #[.string ⟨#[]⟩, .pointer none] := by
  rw [hw4]
  exact (g0.far (by simp) _).far (by simp; omega) _
 have v4 : w4.cell? ⟨w.heap.size, 0, none⟩ = some (.string ⟨#[]⟩) := by rw [v3.cell]; rfl
 have v5 : w4.cell? ⟨w.heap.size, 1, none⟩ = some (.pointer none) := by rw [v3.cell]; rfl
 have v6 : w4.frozen? ⟨w.heap.size, 0, none⟩ = false := v3.frozen 0
 have v7 : w4.frozen? ⟨w.heap.size, 1, none⟩ = false := v3.frozen 1
 have V3 := zaa v3
 have W4 := zaa hw4
 have G0 := zaa g0
 have HG := zaa hGb
 clear v3 hw4 g0 hGb x1 x2 y1 y2 e1 e2 hr2
 go_region
 obtain ⟨w5, hw5⟩ : ∃ w5, w5 = ((w4.setCell ⟨w.heap.size, 0, none⟩ (.string (zas (es.drop k)))).setCell ⟨w.heap.size, 1, none⟩ (P (w.heap.size + 1 + 1))) := ⟨_, rfl⟩
 unfold P at hw5
 rw [<- hw5]
 have f0 : Blk w5 w.heap.size 139 #[.string (zas (es.drop k)), P (w.heap.size + 1 + 1)] := by
  rw [hw5]
  exact (V3.out.set_ 0 _).set_ 1 _
 have f1 : w5.cell? ⟨w.heap.size, 0, none⟩ = some (.string (zas (es.drop k))) := by rw [f0.cell]; rfl
 have f2 : w5.cell? ⟨w.heap.size, 1, none⟩ = some (P (w.heap.size + 1 + 1)) := by rw [f0.cell]; rfl
 have W5 := zaa hw5
 clear hw5 f0
 unfold P at f2
 go_wp2_with fail
 refine bodyPost_ret (v := .tuple #[P (w.heap.size + 1), .agg #[.string (zas (es.drop k)), P (w.heap.size + 1 + 1)]]) (by simp [results, Tryz.results86, go_sem, f1, f2]) rfl ⟨rfl, A1', c1', ?_, some ⟨g2, 0, none⟩, c2', ?_, ?_, ?_, ?_⟩
 . rw [W5.out, W4.out]
   exact ((((S1.out.set_ 4 _).far (by simp) _).far (by simp) _).far (by simp) _)
 . rw [W5.out, W4.out]
   exact ((((S2.out.far (by simp) _).set_ 4 _).far (by simp; omega) _).far (by simp; omega) _)
 . rw [W5.out, W4.out]
   have h := zat ho1 hb3
   have hzz : w1.heap.size <= w2.heap.size := hz3
   have m0 := zb3 h (g := w.heap.size) (by first | (show _ < w1.heap.size; omega) | (show _ < w2.heap.size; omega))
   have m1 := zb3 h (g := w.heap.size + 1) (by first | (show _ < w1.heap.size; omega) | (show _ < w2.heap.size; omega))
   have m2 := zb3 h (g := w.heap.size + 1 + 1) (by first | (show _ < w1.heap.size; omega) | (show _ < w2.heap.size; omega))
   exact zct (ownsRow_setCell_other (ownsRow_setCell_other (ownsRow_setCell_other (ownsRow_setCell_other h m1 _) m2 _) m0 _) m0 _) (by have := hw1.size; exact this)
 . rw [W5.out, W4.out]
   have h := ho2
   have hzz : w1.heap.size <= w2.heap.size := hz3
   have m0 := zb3 h (g := w.heap.size) (by first | (show _ < w1.heap.size; omega) | (show _ < w2.heap.size; omega))
   have m1 := zb3 h (g := w.heap.size + 1) (by first | (show _ < w1.heap.size; omega) | (show _ < w2.heap.size; omega))
   have m2 := zb3 h (g := w.heap.size + 1 + 1) (by first | (show _ < w1.heap.size; omega) | (show _ < w2.heap.size; omega))
   exact zct (ownsRow_setCell_other (ownsRow_setCell_other (ownsRow_setCell_other (ownsRow_setCell_other h m1 _) m2 _) m0 _) m0 _) (by have := hw1.size; have : w1.heap.size <= w2.heap.size := hz3; show w.heap.size <= w2.heap.size; omega)
 . rw [W5.out, W4.out]
   have h1 : Below w1.heap.size w1 w2 := (Below.refl _ w1).drew.trans hb2'
   have h2 : Below w.heap.size w w3 := (hw1.trans (h1.mono (by omega))).trans (hb3.mono (by omega))
   exact ((((h2.setCell (p := ⟨w.heap.size + 1, 4, none⟩) (Nat.le_add_right _ _) _).setCell (p := ⟨w.heap.size + 1 + 1, 4, none⟩) (Nat.le_add_right _ 2) _).setCell (p := ⟨w.heap.size, 0, none⟩) (Nat.le_refl _) _).setCell (p := ⟨w.heap.size, 1, none⟩) (Nat.le_refl _) _).drew
theorem zh9 (l : List Nat) (h : 2 <= l.length) : 1 <= zba l /\ zba l < l.length := by unfold zba; omega
theorem RepL.take {K : Type} {R : K -> Nat -> List Nat -> Prop} : ∀ {es : List (Str × K)} {bs : List Nat} {dss : List (List Nat)} (k : Nat), RepL R es bs dss -> RepL R (es.take k) (bs.take k) (dss.take k)
 | [], [], [], k, _ => by simp [RepL]
 | _ :: _, _ :: _, _ :: _, 0, _ => by simp [RepL]
 | _ :: _, _ :: _, _ :: _, k + 1, h => ⟨h.1, RepL.take k h.2⟩
 | [], [], _ :: _, _, h => h.elim
 | [], _ :: _, _, _, h => h.elim
 | _ :: _, [], _, _, h => h.elim
 | _ :: _, _ :: _, [], _, h => h.elim
theorem RepL.drop {K : Type} {R : K -> Nat -> List Nat -> Prop} : ∀ {es : List (Str × K)} {bs : List Nat} {dss : List (List Nat)} (k : Nat), RepL R es bs dss -> RepL R (es.drop k) (bs.drop k) (dss.drop k)
 | [], [], [], k, _ => by simp [RepL]
 | _ :: _, _ :: _, _ :: _, 0, h => h
 | _ :: _, _ :: _, _ :: _, k + 1, h => RepL.drop (es := _) k h.2
 | [], [], _ :: _, _, h => h.elim
 | [], _ :: _, _, _, h => h.elim
 | _ :: _, [], _, _, h => h.elim
 | _ :: _, _ :: _, [], _, h => h.elim
theorem RepL.append {K : Type} {R : K -> Nat -> List Nat -> Prop} : ∀ {es es' : List (Str × K)} {bs bs' : List Nat} {dss dss' : List (List Nat)}, RepL R es bs dss -> RepL R es' bs' dss' -> RepL R (es ++ es') (bs ++ bs') (dss ++ dss')
 | [], _, [], _, [], _, _, h => h
 | _ :: _, _, _ :: _, _, _ :: _, _, h, h' => ⟨h.1, RepL.append h.2 h'⟩
 | [], _, [], _, _ :: _, _, h, _ => h.elim
 | [], _, _ :: _, _, _, _, h, _ => h.elim
 | _ :: _, _, [], _, _, _, h, _ => h.elim
 | _ :: _, _, _ :: _, _, [], _, h, _ => h.elim
theorem SlC.zero (w : World) (T : TypeId) : SlC w T (.slice none 0 0) 0 [] := ⟨rfl, none, 0, rfl, Nat.le_refl _, Nat.zero_le _, fun _ => rfl, fun h => absurd h (by omega)⟩
theorem NodeIs.keep {w w' : World} {b blk gen : Nat} {d : Bool} {A1 : Option Addr} {n1 c1 : Nat} {xs : List Value} {A2 : Option Addr} {n2 c2 : Nat} {ys : List Value} (h : NodeIs w b blk gen d A1 n1 c1 xs A2 n2 c2 ys) (hk : Keep w w') : NodeIs w' b blk gen d A1 n1 c1 xs A2 n2 c2 ys :=
 ⟨(hk.block _ _ _ _ h.node zlw).trans h.node, h.ps.keep zj1 hk, h.ks.keep zj2 hk⟩
theorem zko (b blk gen : Nat) (dirty : Bool) (A1 : Option Addr) (n1 c1 : Nat) (xs : List Value) (A2 : Option Addr) (n2 c2 : Nat) (ys : List Value) (w : World) (h : NodeIs w b blk gen dirty A1 n1 c1 xs A2 n2 c2 ys)
   (hx : ∀ u ∈ xs, u.oneCell' = true) (hy : ∀ u ∈ ys, u.oneCell' = true) (hn1 : n1 <= 1000) (hn2 : n2 <= 1000) :
   Calls Tryz.prog 118 #[P b] w fun e w' => ∃ b' A1' c1' A2' c2', e = .returned (P b') /\ Blk w' b' 137 #[.int .i64 0, .int .u32 0, .bool true, .slice A1' n1 c1', .slice A2' n2 c2'] /\ w'.ownsRow w.heap.size 68 2 (.slice A1' n1 c1') n1 xs /\ w'.ownsRow w.heap.size 139 2 (.slice A2' n2 c2') n2 ys /\ w.heap.size <= b' /\ Below w.heap.size w w' :=
 (zfh b blk gen dirty A1 n1 c1 xs A2 n2 c2 ys w h hx hy hn1 hn2).mono fun _ _ ⟨b', v1, v2, he, hb, h1, h2, h3, h4⟩ => by
  obtain ⟨A1', c1', rfl, _, _⟩ := zbf h1
  obtain ⟨A2', c2', rfl, _, _⟩ := zbf h2
  exact ⟨b', A1', c1', A2', c2', he, hb, h1, h2, h3, h4⟩
theorem ze9 {w : World} {base base' s s' n n' : Nat} {T T' : TypeId} {v v' : Value} {xs xs' : List Value} (h : w.ownsRow base T s v n xs) (h' : w.ownsRow base' T' s' v' n' xs') (hne : T ≠ T') : v.ownBlock = none \/ v.ownBlock ≠ v'.ownBlock := by
 rcases h.2 with ⟨rfl, _⟩ | ⟨g, cap, cur, rfl, hb, hg, _⟩
 . exact .inl rfl
 . exact .inr fun he => zae h' hg (fun e => hne e.symm) he.symm
theorem zl4 {w : World} {base s n : Nat} {T : TypeId} {v : Value} {xs : List Value} (h : w.ownsRow base T s v n xs) : ∀ g, v.ownBlock = some g -> base <= g := by
 rcases h.2 with ⟨rfl, _⟩ | ⟨g, cap, cur, rfl, hb, hg, _⟩
 . intro g hg; cases hg
 . intro g' hg; have : g = g' := by simpa [Value.ownBlock] using hg
   omega
set_option maxHeartbeats 1600000 in
theorem zpc (es1 es2 : List (Str × Str)) (k : Str) (b1 blk1 gen1 c1 d1 b2 blk2 gen2 c2 d2 : Nat) (f1 f2 : Bool) (A1 B1 A2 B2 : Option Addr) (w : World)
   (hn1 : NodeIs w b1 blk1 gen1 f1 A1 es1.length c1 (pcells es1) B1 0 d1 []) (hn2 : NodeIs w b2 blk2 gen2 f2 A2 es2.length c2 (pcells es2) B2 0 d2 []) (hl1 : es1.length <= 400) (hl2 : es2.length <= 400) :
   Calls Tryz.prog 162 #[P b1, .agg #[.string k, P b2]] w fun e w' => ∃ b' A1 c1 A2 c2, e = .returned (P b') /\ Blk w' b' 137 #[.int .i64 0, .int .u32 0, .bool true, .slice A1 (es1.length + es2.length) c1, .slice A2 0 c2] /\
    w'.ownsRow w.heap.size 68 2 (.slice A1 (es1.length + es2.length) c1) (es1.length + es2.length) (pcells es1 ++ pcells es2) /\ w'.ownsRow w.heap.size 139 2 (.slice A2 0 c2) 0 [] /\ w.heap.size <= b' /\ Below w.heap.size w w' := by
 obtain ⟨i0, hi0, hz0, hz1, hz2⟩ := info_parts zdc
 have hbx : Blk (w.alloc (.cells #[.string k, P b2] 139)) w.heap.size 139 #[.string k, P b2] := Blk.new w _ _
 have hk0 : Keep w (w.alloc (.cells #[.string k, P b2] 139)) := Keep.alloc _
 have hm1 := hn1.keep hk0
 have hm2 := hn2.keep hk0
 have lt1 := Blk.lt hn1.node
 have lt2 := Blk.lt hn2.node
 have HBX := zaa hbx
 have M1 := zaa hm1
 have M2 := zaa hm2
 have O1 := zaa (zcn es1)
 have O2 := zaa (zcn es2)
 have I0 := zaa hi0
 have Z0 := zaa hz0
 have Z1 := zaa hz1
 have Z2 := zaa hz2
 clear hbx hm1 hm2 hk0 hn1 hn2 hi0 hz0 hz1 hz2
 unfold P
 go_enter Tryz.func162, Tryz.ntmps162
 go_wp2_with (first
  | (go_at_call 118; refine (zko b1 blk1 gen1 f1 A1 _ c1 _ B1 0 d1 _ _ M1.out O1.out (by simp) (by omega) (by omega)).mono ?_; rintro e w1 ⟨b', A1', c1', A2', c2', rfl, x1, x2, x3, x4, x5⟩; have N1 := zaa (M1.out.keep (Keep.of_below x5)); have N2 := zaa (M2.out.keep (Keep.of_below x5)); have X1 := zaa x1; clear x1)
  | (go_at_call 81; refine (zdq b1 blk1 gen1 d1 _ _ B1 _ N1.out.node).mono ?_; rintro e w' ⟨rfl, rfl⟩))
 have hz1 : w.heap.size + 1 <= w1.heap.size := by have := x5.size; simp at this; omega
 have y1 : w1.cell? ⟨b', 3, none⟩ = some (.slice A1' es1.length c1') := by rw [X1.out.cell]; rfl
 have hbx1 := HBX.out.below x5 (by simp)
 have y2 : w1.cell? ⟨w.heap.size, 1, none⟩ = some (P b2) := by rw [hbx1.cell]; rfl
 have y3 : w1.cell? ⟨b2, 3, none⟩ = some (.slice A2 es2.length c2) := by rw [Blk.cell N2.out.node]; rfl
 have hlb : b' < w1.heap.size := X1.out.lt
 have hneb : (Value.slice A1' es1.length c1').ownBlock ≠ some b' := zae x2 X1.out (by decide)
 have hx2 := zct x2 (base' := w.heap.size) (by simp)
 have R2 := zaa N2.out.ps.reads
 have HX2 := zaa hx2
 have HX3 := zaa x3
 have HNE := zaa hneb
 have l1 : es1.length + es2.length <= maxLen := by simp only [maxLen]; omega
 have l2 : (es1.length + es2.length) * 32 <= 140737488355328 := by omega
 have l3 : w.heap.size <= w1.heap.size := by omega
 have H5 := zaa x5
 clear hbx1 x2 x3 hx2 hneb x5
 go_region_law (
  refine zc9 _ rfl (.tmp 15) (.tmp 20) 39 rfl w.heap.size 68 i0 _ 2 32 Tryz.underlying39 I0.out Z0.out Z1.out Z2.out rfl (by omega) (.slice A1' es1.length c1') es1.length (pcells es1) (by simp [Act.eval]) HX2.out w1.heap.size A2 es2.length c2 (pcells es2) (by simp [Act.eval]) R2.out.drew O2.out l1 l2 l3 ?_
  intro v1 w2 ho2 hg2 hat2
  obtain ⟨A3, c3, rfl, _, ho3⟩ := zbf ho2
  have s1 := X1.out.drew.grown hg2 (fun h => HNE.out h.symm)
  have s2 : w2.cell? ⟨b', 3, none⟩ = some (.slice A1' es1.length c1') := by rw [s1.cell]; rfl
  have s3 : w2.frozen? ⟨b', 3, none⟩ = false := s1.frozen 3
  have S1 := zaa s1
  clear s1)
 all_goals
  go_wp2
  go_ret
  have hb1 : Below w.heap.size w w1 := ((Below.refl _ _).alloc (Nat.le_refl _) _).trans (H5.out.mono (by simp))
  have hb2 : Below w.heap.size w w2 := Below.grown (hb1.trans (Below.refl _ _).drew) hg2 l3 (zl4 HX2.out)
  have hk2 : w2.ownsRow w.heap.size 139 2 (.slice A2' 0 c2') 0 [] := (zct (World.ownsRow.kept (w := w1.drew) HX3.out hg2 (ze9 HX3.out HX2.out (by decide))) (by simp))
  refine ⟨b', A3, c3, A2', c2', rfl, S1.out.set_ 3 _, ?_, ?_, ?_, ?_⟩
  . exact ownsRow_setCell_other ho3 (zae ho3 S1.out (by decide)) _
  . exact ownsRow_setCell_other hk2 (zae hk2 S1.out (by decide)) _
  . simp at x4; omega
  . exact (hb2.setCell (p := ⟨b', 3, none⟩) (by simp at x4; show w.heap.size <= b'; omega) _)
def Agree (ok : Nat -> Prop) (w w' : World) : Prop := ∀ x, ok x -> w'.heap[x]? = w.heap[x]?
theorem Agree.trans {ok : Nat -> Prop} {a b c : World} (h : Agree ok a b) (k : Agree ok b c) : Agree ok a c := fun x hx => (k x hx).trans (h x hx)
theorem Agree.less {ok ok' : Nat -> Prop} {a b : World} (h : Agree ok a b) (hs : ∀ x, ok' x -> ok x) : Agree ok' a b := fun x hx => h x (hs x hx)
theorem Agree.of_below {w w' : World} {B : Nat} (h : Below B w w') {ok : Nat -> Prop} (hok : ∀ x, ok x -> x < B) : Agree ok w w' := fun x hx => h.block x (hok x hx)
theorem Agree.setCell {ok : Nat -> Prop} (w : World) (p : Addr) (u : Value) (h : ¬ ok p.block) : Agree ok w (w.setCell p u) := fun x hx => Below.heap_setCell w p u x (fun e => h (e ▸ hx))
theorem Agree.grown {ok : Nat -> Prop} {w w' : World} {row : Option Nat} (h : w.grownBy w' row) (hok : ∀ x, ok x -> x < w.heap.size /\ some x ≠ row) : Agree ok w w' := fun x hx => h.block x (hok x hx).1 (hok x hx).2
def rowOk (ok : Nat -> Prop) (n : Nat) (A : Option Addr) : Prop := 0 < n -> ∀ a, A = some a -> ok a.block
theorem rowOk.more {ok ok' : Nat -> Prop} {n : Nat} {A : Option Addr} (h : rowOk ok n A) (hs : ∀ x, ok x -> ok' x) : rowOk ok' n A := fun hn a ha => hs _ (h hn a ha)
theorem SlC.move {ok : Nat -> Prop} {w w' : World} {T : TypeId} {A : Option Addr} {n c : Nat} {xs : List Value} (h : SlC w T (.slice A n c) n xs) (hr : rowOk ok n A) (ha : Agree ok w w') : SlC w' T (.slice A n c) n xs := by
 obtain ⟨hl, A', c', hv, h1, h2, h3, hp⟩ := h
 injection hv with e1 _ e3
 subst e1
 subst e3
 refine ⟨hl, A, c, rfl, h1, h2, h3, fun hn => ?_⟩
 obtain ⟨g, o, cur, rfl, hg, hx⟩ := hp hn
 exact ⟨g, o, cur, rfl, (ha g (hr hn _ rfl)).trans hg, hx⟩
theorem SlC.row_lt {w : World} {T : TypeId} {A : Option Addr} {n c : Nat} {xs : List Value} (h : SlC w T (.slice A n c) n xs) : rowOk (fun x => x < w.heap.size) n A := by
 intro hn a ha
 obtain ⟨hl, A', c', hv, h1, h2, h3, hp⟩ := h
 injection hv with e1 _ e3
 subst e1
 obtain ⟨g, o, cur, hA, hg, hx⟩ := hp hn
 rw [hA] at ha
 injection ha with ha
 subst ha
 exact hg.lt
def FRep (ok : Nat -> Prop) (w : World) : (h : Nat) -> Tr h -> Nat -> List Nat -> Prop
 | 0, t, b, ds => ∃ A1 c1 A2 c2, NodeIs w b (Nd.blk t) (Nd.gen t) (Nd.dirty t) A1 (Nd.es t).length c1 (pcells (Nd.es t)) A2 0 c2 [] /\ ok b /\ rowOk ok (Nd.es t).length A1 /\ ds = zb2 (Nd.dirty t) b
 | h + 1, t, b, ds => ∃ A1 c1 A2 c2 bs dss, NodeIs w b (Nd.blk t) (Nd.gen t) (Nd.dirty t) A1 0 c1 [] A2 (Nd.es t).length c2 (kcells (Nd.es t) bs) /\ ok b /\ rowOk ok (Nd.es t).length A2 /\ RepL (FRep ok w h) (Nd.es t) bs dss /\ ds = dss.flatten ++ zb2 (Nd.dirty t) b
theorem NodeIs.move {ok : Nat -> Prop} {w w' : World} {b blk gen : Nat} {d : Bool} {A1 : Option Addr} {n1 c1 : Nat} {xs : List Value} {A2 : Option Addr} {n2 c2 : Nat} {ys : List Value} (h : NodeIs w b blk gen d A1 n1 c1 xs A2 n2 c2 ys) (ha : Agree ok w w') (hb : ok b) (h1 : rowOk ok n1 A1) (h2 : rowOk ok n2 A2) : NodeIs w' b blk gen d A1 n1 c1 xs A2 n2 c2 ys :=
 ⟨(ha b hb).trans h.node, h.ps.move h1 ha, h.ks.move h2 ha⟩
theorem rowOk.zero (ok : Nat -> Prop) (A : Option Addr) : rowOk ok 0 A := fun h => absurd h (by omega)
theorem FRep.move {ok ok' : Nat -> Prop} {w w' : World} (ha : Agree ok w w') (hs : ∀ x, ok x -> ok' x) : ∀ {h : Nat} {t : Tr h} {b : Nat} {ds : List Nat}, FRep ok w h t b ds -> FRep ok' w' h t b ds
 | 0, _, _, _, ⟨A1, c1, A2, c2, hn, hb, hr, hd⟩ => ⟨A1, c1, A2, c2, hn.move ha hb hr (rowOk.zero _ _), hs _ hb, hr.more hs, hd⟩
 | _ + 1, _, _, _, ⟨A1, c1, A2, c2, bs, dss, hn, hb, hr, hk, hd⟩ => ⟨A1, c1, A2, c2, bs, dss, hn.move ha hb (rowOk.zero _ _) hr, hs _ hb, hr.more hs, hk.mono fun _ _ _ hk => FRep.move ha hs hk, hd⟩
theorem FRep.more {ok ok' : Nat -> Prop} {w : World} {h : Nat} {t : Tr h} {b : Nat} {ds : List Nat} (hf : FRep ok w h t b ds) (hs : ∀ x, ok x -> ok' x) : FRep ok' w h t b ds := hf.move (fun _ _ => rfl) hs
theorem FRep.rep {ok : Nat -> Prop} {w : World} : ∀ {h : Nat} {t : Tr h} {b : Nat} {ds : List Nat}, FRep ok w h t b ds -> Rep w h t b ds
 | 0, _, _, _, ⟨_A1, _c1, _A2, _c2, hn, _hb, _hr, hd⟩ => ⟨_, _, hn.node, hn.ps, hn.ks, hd⟩
 | _ + 1, _, _, _, ⟨_A1, _c1, _A2, _c2, bs, dss, hn, _hb, _hr, hk, hd⟩ => ⟨_, _, bs, dss, hn.node, hn.ps, hn.ks, hk.mono fun _ _ _ hk => hk.rep, hd⟩
theorem FRep.lt {ok : Nat -> Prop} {w : World} {h : Nat} {t : Tr h} {b : Nat} {ds : List Nat} (hf : FRep ok w h t b ds) : FRep (fun x => ok x /\ x < w.heap.size) w h t b ds := by
 induction h generalizing b ds with
 | zero =>
   obtain ⟨A1, c1, A2, c2, hn, hb, hr, hd⟩ := hf
   exact ⟨A1, c1, A2, c2, hn, ⟨hb, Blk.lt hn.node⟩, fun h0 a ha => ⟨hr h0 a ha, hn.ps.row_lt h0 a ha⟩, hd⟩
 | succ h ih =>
   obtain ⟨A1, c1, A2, c2, bs, dss, hn, hb, hr, hk, hd⟩ := hf
   exact ⟨A1, c1, A2, c2, bs, dss, hn, ⟨hb, Blk.lt hn.node⟩, fun h0 a ha => ⟨hr h0 a ha, hn.ks.row_lt h0 a ha⟩, hk.mono fun _ _ _ hk => ih hk, hd⟩
theorem zkp {w : World} {base n c : Nat} {T : TypeId} {A : Option Addr} {xs : List Value} (h : w.ownsRow base T 2 (.slice A n c) n xs) {ok : Nat -> Prop} (hok : ∀ x, base <= x -> x < w.heap.size -> ok x) : rowOk ok n A := by
 intro hn a ha
 subst ha
 rcases h.2 with ⟨h0, _⟩ | ⟨g, cap, cur, hv, hb, hg, _⟩
 . cases h0
 . injection hv with hv
   injection hv with hv
   subst hv
   exact hok _ hb (Blk.lt (t := T) hg)
theorem FRep.mk_leaf {ok : Nat -> Prop} {w : World} {base b n c1 c2 : Nat} {A1 A2 : Option Addr} {es : List (Str × Str)} (hn : n = es.length) (hb : Blk w b 137 #[.int .i64 0, .int .u32 0, .bool true, .slice A1 n c1, .slice A2 0 c2])
   (h1 : w.ownsRow base 68 2 (.slice A1 n c1) n (pcells es)) (h2 : w.ownsRow base 139 2 (.slice A2 0 c2) 0 []) (hbb : base <= b) (hok : ∀ x, base <= x -> x < w.heap.size -> ok x) : FRep ok w 0 (fresh es : Nd Str) b [b] := by
 subst hn
 exact ⟨A1, c1, A2, c2, ⟨hb, SlC.of_own h1, SlC.of_own h2⟩, hok _ hbb hb.lt, zkp h1 hok, rfl⟩
theorem FRep.mk_branch {ok : Nat -> Prop} {w : World} {h base b n c1 c2 : Nat} {A1 A2 : Option Addr} {es : List (Str × Tr h)} {bs : List Nat} {dss : List (List Nat)} (hn : n = es.length) (hb : Blk w b 137 #[.int .i64 0, .int .u32 0, .bool true, .slice A1 0 c1, .slice A2 n c2])
   (h1 : w.ownsRow base 68 2 (.slice A1 0 c1) 0 []) (h2 : w.ownsRow base 139 2 (.slice A2 n c2) n (kcells es bs)) (hbb : base <= b) (hok : ∀ x, base <= x -> x < w.heap.size -> ok x) (hk : RepL (FRep ok w h) es bs dss) : FRep ok w (h + 1) (fresh es : Nd (Tr h)) b (dss.flatten ++ [b]) := by
 subst hn
 exact ⟨A1, c1, A2, c2, bs, dss, ⟨hb, SlC.of_own h1, SlC.of_own h2⟩, hok _ hbb hb.lt, zkp h2 hok, hk, rfl⟩
end Go.Proofs.YtemondlgcmpbbaaGreatDoor
