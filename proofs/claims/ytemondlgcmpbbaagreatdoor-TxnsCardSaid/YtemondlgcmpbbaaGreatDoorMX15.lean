/- Rep Wd TreeH We Wf: merged. -/
import Derived.Test.YtemondlgcmpbbaaGreatDoorMX12
import Derived.Test.YtemondlgcmpbbaaGreatDoorMX14
namespace Go.Proofs.YtemondlgcmpbbaaGreatDoor
open Go.RowKit
set_option maxRecDepth 100000
def SlC (w : World) (T : TypeId) (v : Value) (n : Nat) (xs : List Value) : Prop :=
 xs.length = n * 2 /\ ∃ A c, v = .slice A n c /\ n <= c /\ c <= maxLen /\ (A = none -> c = 0) /\ (0 < n -> ∃ g o cur, A = some ⟨g, o, none⟩ /\ Blk w g T cur /\ ∀ j u, xs[j]? = some u -> cur[o + j]? = some u)
theorem SlC.of_own {w : World} {base : Nat} {T : TypeId} {v : Value} {n : Nat} {xs : List Value} (h : w.ownsRow base T 2 v n xs) : SlC w T v n xs := by
 obtain ⟨hl, hd⟩ := h
 refine ⟨hl, ?_⟩
 rcases hd with ⟨rfl, rfl⟩ | ⟨g, cap, cur, rfl, _, hg, hnc, hcm, hcs, hx⟩
 . exact ⟨none, 0, rfl, Nat.le_refl _, Nat.zero_le _, fun _ => rfl, fun h => absurd h (by omega)⟩
 . refine ⟨_, cap, rfl, hnc, hcm, (fun h => by cases h), fun _ => ⟨g, 0, cur, rfl, hg, fun j u hu => ?_⟩⟩
   rw [<- hx, List.getElem?_take] at hu
   split at hu
   . rw [Nat.zero_add]; simpa using hu
   . cases hu
theorem SlC.reads {w : World} {T : TypeId} {A : Option Addr} {c n : Nat} {xs : List Value} (h : SlC w T (.slice A n c) n xs) : Reads w w.heap.size 2 A n xs := by
 obtain ⟨hl, A', c', hv, _, _, _, hp⟩ := h
 injection hv with h1 _ h3
 subst h1
 refine ⟨hl, fun hn => ?_⟩
 obtain ⟨g, o, cur, rfl, hg, hx⟩ := hp hn
 exact ⟨_, rfl, hg.lt, fun j u hu => by rw [Addr.add_lit, hg.cell]; exact hx j u hu⟩
theorem SlC.nil0 {w : World} {T : TypeId} {A : Option Addr} {c n : Nat} {xs : List Value} (h : SlC w T (.slice A n c) n xs) : A = none -> n = 0 := by
 obtain ⟨_, A', c', hv, h1, _, h3, _⟩ := h
 injection hv with h4 _ h5
 subst h4; subst h5
 intro e
 have := h3 e
 omega
theorem SlC.form {w : World} {T : TypeId} {v : Value} {n : Nat} {xs : List Value} (h : SlC w T v n xs) : ∃ A c, v = .slice A n c /\ n <= c /\ c <= maxLen := by
 obtain ⟨_, A, c, hv, h1, h2, _, _⟩ := h
 exact ⟨A, c, hv, h1, h2⟩
theorem SlC.keep {w w' : World} {T : TypeId} {v : Value} {n : Nat} {xs : List Value} (h : SlC w T v n xs) (hT : Imm T) (hk : Keep w w') : SlC w' T v n xs := by
 obtain ⟨hl, A, c, hv, h1, h2, h3, hp⟩ := h
 refine ⟨hl, A, c, hv, h1, h2, h3, fun hn => ?_⟩
 obtain ⟨g, o, cur, hA, hg, hx⟩ := hp hn
 exact ⟨g, o, cur, hA, (hk.block g _ _ _ hg hT).trans hg, hx⟩
theorem zlw : Imm 137 := .inl rfl
theorem zj1 : Imm 68 := .inr (.inl rfl)
theorem zj2 : Imm 139 := .inr (.inr rfl)
abbrev P (b : Nat) : Value := .pointer (some ⟨b, 0, none⟩)
def pcells (es : List (Str × Str)) : List Value := es.flatMap fun e => [.string e.1, .string e.2]
def kcells {K : Type} : List (Str × K) -> List Nat -> List Value
 | e :: es, b :: bs => .string e.1 :: P b :: kcells es bs
 | _, _ => []
def zer (w : World) (b blk gen : Nat) (dirty : Bool) (pv kv : Value) : Prop := Blk w b 137 #[.int .i64 blk, .int .u32 gen, .bool dirty, pv, kv]
def RepL {K : Type} (R : K -> Nat -> List Nat -> Prop) : List (Str × K) -> List Nat -> List (List Nat) -> Prop
 | [], [], [] => True
 | e :: es, b :: bs, d :: dss => R e.2 b d /\ RepL R es bs dss
 | _, _, _ => False
def zb2 (dirty : Bool) (b : Nat) : List Nat := if dirty then [b] else []
def Rep (w : World) : (h : Nat) -> Tr h -> Nat -> List Nat -> Prop
 | 0, t, b, ds => ∃ pv kv, zer w b (Nd.blk t) (Nd.gen t) (Nd.dirty t) pv kv /\ SlC w 68 pv (Nd.es t).length (pcells (Nd.es t)) /\ SlC w 139 kv 0 [] /\ ds = zb2 (Nd.dirty t) b
 | h + 1, t, b, ds => ∃ pv kv bs dss, zer w b (Nd.blk t) (Nd.gen t) (Nd.dirty t) pv kv /\ SlC w 68 pv 0 [] /\ SlC w 139 kv (Nd.es t).length (kcells (Nd.es t) bs) /\ RepL (Rep w h) (Nd.es t) bs dss /\ ds = dss.flatten ++ zb2 (Nd.dirty t) b
theorem RepL.mono {K : Type} {R R' : K -> Nat -> List Nat -> Prop} (hR : ∀ k b d, R k b d -> R' k b d) : ∀ {es : List (Str × K)} {bs : List Nat} {dss : List (List Nat)}, RepL R es bs dss -> RepL R' es bs dss
 | [], [], [], h => h
 | _ :: _, _ :: _, _ :: _, h => ⟨hR _ _ _ h.1, RepL.mono hR h.2⟩
 | [], [], _ :: _, h => h.elim
 | [], _ :: _, _, h => h.elim
 | _ :: _, [], _, h => h.elim
 | _ :: _, _ :: _, [], h => h.elim
theorem Rep.keep {w w' : World} (hk : Keep w w') : ∀ {h : Nat} {t : Tr h} {b : Nat} {ds : List Nat}, Rep w h t b ds -> Rep w' h t b ds
 | 0, _, _, _, ⟨pv, kv, h1, h2, h3, h4⟩ => ⟨pv, kv, (hk.block _ _ _ _ h1 zlw).trans h1, h2.keep zj1 hk, h3.keep zj2 hk, h4⟩
 | _ + 1, _, _, _, ⟨pv, kv, bs, dss, h1, h2, h3, h4, h5⟩ => ⟨pv, kv, bs, dss, (hk.block _ _ _ _ h1 zlw).trans h1, h2.keep zj1 hk, h3.keep zj2 hk, h4.mono fun _ _ _ hr => Rep.keep hk hr, h5⟩
theorem RepL.len {K : Type} {R : K -> Nat -> List Nat -> Prop} : ∀ {es : List (Str × K)} {bs : List Nat} {dss : List (List Nat)}, RepL R es bs dss -> bs.length = es.length /\ dss.length = es.length
 | [], [], [], _ => ⟨rfl, rfl⟩
 | _ :: _, _ :: _, _ :: _, h => ⟨by simp [(RepL.len h.2).1], by simp [(RepL.len h.2).2]⟩
 | [], [], _ :: _, h => h.elim
 | [], _ :: _, _, h => h.elim
 | _ :: _, [], _, h => h.elim
 | _ :: _, _ :: _, [], h => h.elim
theorem zcn (es : List (Str × Str)) : ∀ u ∈ pcells es, u.oneCell' = true := by
 intro u hu
 simp only [pcells, List.mem_flatMap, List.mem_cons, List.not_mem_nil, or_false] at hu
 obtain ⟨e, _, rfl | rfl⟩ := hu <;> rfl
theorem zb0 {K : Type} : ∀ (es : List (Str × K)) (bs : List Nat), ∀ u ∈ kcells es bs, u.oneCell' = true
 | [], _, _, h => by simp [kcells] at h
 | _ :: _, [], _, h => by simp [kcells] at h
 | _ :: es, _ :: bs, u, h => by
   simp only [kcells, List.mem_cons] at h
   rcases h with rfl | rfl | h
   . rfl
   . rfl
   . exact zb0 es bs u h
theorem zcz : ∀ (es : List (Str × Str)) (i : Nat) (h : i < es.length), (pcells es)[i * 2]? = some (.string es[i].1) /\ (pcells es)[i * 2 + 1]? = some (.string es[i].2)
 | [], _, h => by simp at h
 | e :: es, 0, _ => ⟨rfl, rfl⟩
 | e :: es, i + 1, h => by
   have := zcz es i (by simpa using h)
   simp only [pcells, List.flatMap_cons, List.getElem_cons_succ, show (i + 1) * 2 = i * 2 + 2 by omega] at *
   exact this
theorem zco {K : Type} : ∀ (es : List (Str × K)) (bs : List Nat) (i : Nat) (h : i < es.length) (hb : i < bs.length), (kcells es bs)[i * 2]? = some (.string es[i].1) /\ (kcells es bs)[i * 2 + 1]? = some (P bs[i])
 | [], _, _, h, _ => by simp at h
 | _ :: _, [], _, _, hb => by simp at hb
 | e :: es, b :: bs, 0, _, _ => ⟨rfl, rfl⟩
 | e :: es, b :: bs, i + 1, h, hb => by
   have := zco es bs i (by simpa using h) (by simpa using hb)
   simp only [kcells, List.getElem_cons_succ, show (i + 1) * 2 = i * 2 + 2 by omega, List.getElem?_cons_succ] at *
   exact this
theorem zbf {w : World} {base : Nat} {T : TypeId} {v : Value} {n : Nat} {xs : List Value} (h : w.ownsRow base T 2 v n xs) : ∃ A c, v = .slice A n c /\ c <= maxLen /\ w.ownsRow base T 2 (.slice A n c) n xs := by
 obtain ⟨_, A, c, rfl, _, hc, _⟩ := SlC.of_own h
 exact ⟨A, c, rfl, hc, h⟩
theorem zfz (A : Option Addr) (n c : Nat) (xs : List Value) (w : World) (hr : Reads w w.heap.size 2 A n xs) (h1 : ∀ u ∈ xs, u.oneCell' = true) (hn : n <= 1000) (hA : A = none -> n = 0) :
   Calls Tryz.prog 128 #[.slice A n c] w fun e w' => ∃ A' c', e = .returned (.slice A' n c') /\ c' <= maxLen /\ w'.ownsRow w.heap.size 68 2 (.slice A' n c') n xs /\ Below w.heap.size w w' :=
 (zo2 A n c xs w hr h1 hn hA).mono fun _ _ ⟨_, he, ho, hb⟩ => by
  obtain ⟨A', c', rfl, hc, ho'⟩ := zbf ho
  exact ⟨A', c', he, hc, ho', hb⟩
theorem zgo (A : Option Addr) (n c : Nat) (xs : List Value) (w : World) (hr : Reads w w.heap.size 2 A n xs) (h1 : ∀ u ∈ xs, u.oneCell' = true) (hn : n <= 1000) (hA : A = none -> n = 0) :
   Calls Tryz.prog 131 #[.slice A n c] w fun e w' => ∃ A' c', e = .returned (.slice A' n c') /\ c' <= maxLen /\ w'.ownsRow w.heap.size 139 2 (.slice A' n c') n xs /\ Below w.heap.size w w' :=
 (zqt A n c xs w hr h1 hn hA).mono fun _ _ ⟨_, he, ho, hb⟩ => by
  obtain ⟨A', c', rfl, hc, ho'⟩ := zbf ho
  exact ⟨A', c', he, hc, ho', hb⟩
theorem zat {w w' : World} {base s n : Nat} {T : TypeId} {v : Value} {xs : List Value} (h : w.ownsRow base T s v n xs) (hb : Below w.heap.size w w') : w'.ownsRow base T s v n xs :=
 h.kept (row := none) ⟨hb.os, hb.tape, hb.output, hb.size, fun k hk _ => hb.block k hk⟩ (by cases v.ownBlock <;> simp)
theorem zct {w : World} {base base' s n : Nat} {T : TypeId} {v : Value} {xs : List Value} (h : w.ownsRow base T s v n xs) (hb : base' <= base) : w.ownsRow base' T s v n xs := by
 refine ⟨h.1, h.2.imp id ?_⟩
 rintro ⟨g, cap, cur, h1, h2, h3⟩
 exact ⟨g, cap, cur, h1, Nat.le_trans hb h2, h3⟩
structure NodeIs (w : World) (b blk gen : Nat) (dirty : Bool) (A1 : Option Addr) (n1 c1 : Nat) (xs : List Value) (A2 : Option Addr) (n2 c2 : Nat) (ys : List Value) : Prop where
 node : zer w b blk gen dirty (.slice A1 n1 c1) (.slice A2 n2 c2)
 ps : SlC w 68 (.slice A1 n1 c1) n1 xs
 ks : SlC w 139 (.slice A2 n2 c2) n2 ys
theorem zfh (b blk gen : Nat) (dirty : Bool) (A1 : Option Addr) (n1 c1 : Nat) (xs : List Value) (A2 : Option Addr) (n2 c2 : Nat) (ys : List Value) (w : World) (h : NodeIs w b blk gen dirty A1 n1 c1 xs A2 n2 c2 ys)
   (hx : ∀ u ∈ xs, u.oneCell' = true) (hy : ∀ u ∈ ys, u.oneCell' = true) (hn1 : n1 <= 1000) (hn2 : n2 <= 1000) :
   Calls Tryz.prog 118 #[P b] w fun e w' => ∃ b' v1 v2, e = .returned (P b') /\ Blk w' b' 137 #[.int .i64 0, .int .u32 0, .bool true, v1, v2] /\ w'.ownsRow w.heap.size 68 2 v1 n1 xs /\ w'.ownsRow w.heap.size 139 2 v2 n2 ys /\ w.heap.size <= b' /\ Below w.heap.size w w' := by
 obtain ⟨hn, hp, hk⟩ := h
 have c3 : w.cell? ⟨b, 3, none⟩ = some (.slice A1 n1 c1) := by rw [Blk.cell hn]; rfl
 have c4 : w.cell? ⟨b, 4, none⟩ = some (.slice A2 n2 c2) := by rw [Blk.cell hn]; rfl
 have hblt := Blk.lt hn
 have R1 := zaa hp.reads
 have R2 := zaa hk.reads
 have N1 := zaa hp.nil0
 have N2 := zaa hk.nil0
 have HX := zaa hx
 have HY := zaa hy
 clear hn hp hk hx hy
 unfold P
 go_enter Tryz.func118, Tryz.ntmps118
 go_wp2_with fail
 go_region_held3 (fun w' => w'.cell? ⟨b, 3, none⟩ = some (.slice A1 n1 c1) /\ w'.cell? ⟨b, 4, none⟩ = some (.slice A2 n2 c2)) (first | go_keep | (refine ⟨?_, ?_⟩ <;> (first | (rw [hb1.cell hblt]; assumption) | (rw [hb2.cell (by have := hb1.size; simp at this ⊢; omega)]; rw [hb1.cell hblt]; assumption))))
  (first | (go_at_call 128; refine (zfz A1 n1 c1 xs _ R1.out.drew HX.out hn1 N1.out).mono ?_; rintro e w1 ⟨A1', c1', rfl, hm1, ho1, hb1⟩) | (go_at_call 131; refine (zgo A2 n2 c2 ys _ ((R2.out.drew.below hb1).more hb1.size) HY.out hn2 N2.out).mono ?_; rintro e w2 ⟨A2', c2', rfl, hm2, ho2, hb2⟩))
 go_wp2
 go_ret
 have hs1 : w.heap.size <= w1.heap.size := hb1.size
 have hs2 : w1.heap.size <= w2.heap.size := hb2.size
 have hb1' : Below w.heap.size w w1 := (Below.refl w.heap.size w).drew.trans hb1
 have hb2' : Below w.heap.size w w2 := hb1'.trans (hb2.mono hs1)
 exact ⟨_, _, _, rfl, Blk.new _ _ _, (zat ho1 hb2).alloc _, (zct ho2 hs1).alloc _, by omega, hb2'.alloc (by omega) _⟩
theorem zdu {k : IntKind} {a b : Int} (h : a = b) : Ending.returned (.int k a) = .returned (.int k b) := by rw [h]
theorem zfi {a b : Bool} (h : a = b) : Ending.returned (.bool a) = .returned (.bool b) := by rw [h]
theorem zfj (k v : Str) (z : Nat) (w : World) (h : k.size + v.size <= 100000) (hz : z = lsz (k, v)) :
   Calls Tryz.prog 127 #[.agg #[.string k, .string v]] w fun e w' => e = .returned (.int .i64 z) /\ Below w.heap.size w w' := by
 have HZ := zaa hz
 clear hz
 go_enter Tryz.func127, Tryz.ntmps127
 go_wp2
 go_ret
 refine ⟨zdu ?_, (Below.refl _ _).alloc (Nat.le_refl _) _⟩
 rw [HZ.out]
 simp only [lsz]
 omega
theorem zf0 (k : Str) (b : Nat) (z : Nat) (w : World) (h : k.size <= 100000) (hz : z = 7 + k.size) :
   Calls Tryz.prog 130 #[.agg #[.string k, P b]] w fun e w' => e = .returned (.int .i64 z) /\ Below w.heap.size w w' := by
 unfold P
 have HZ := zaa hz
 clear hz
 go_enter Tryz.func130, Tryz.ntmps130
 go_wp2
 go_ret
 exact ⟨zdu (by rw [HZ.out]; omega), (Below.refl _ _).alloc (Nat.le_refl _) _⟩
theorem zcd (l : List Nat) (k : Nat) : (l.take k).sum <= l.sum := by
 conv => rhs; rw [<- List.take_append_drop k l]
 rw [List.sum_append]; omega
theorem zdl (l : List Nat) (k : Nat) (h : k < l.length) : (l.take (k + 1)).sum = (l.take k).sum + l[k] := by
 rw [List.take_succ_eq_append_getElem h, List.sum_append]; simp
theorem SlC.cells_at {w wr : World} {T : TypeId} {A : Option Addr} {n c : Nat} {xs : List Value} (h : SlC w T (.slice A n c) n xs) (hb : Below w.heap.size w wr) {k : Nat} (hk : k < n) :
   ∃ g o u v, A = some ⟨g, o, none⟩ /\ xs[k * 2]? = some u /\ xs[k * 2 + 1]? = some v /\ wr.cell? ⟨g, o + k * 2, none⟩ = some u /\ wr.cell? ⟨g, o + k * 2 + 1, none⟩ = some v /\ g < w.heap.size := by
 obtain ⟨hl, A', c', hv, _, _, _, hp⟩ := h
 injection hv with h1 _ h3
 subst h1
 obtain ⟨g, o, cur, rfl, hg, hx⟩ := hp (by omega)
 have l1 : k * 2 < xs.length := by omega
 have l2 : k * 2 + 1 < xs.length := by omega
 refine ⟨g, o, xs[k * 2], xs[k * 2 + 1], rfl, List.getElem?_eq_getElem l1, List.getElem?_eq_getElem l2, ?_, ?_, hg.lt⟩
 . rw [hb.cell hg.lt, hg.cell]; exact hx _ _ (List.getElem?_eq_getElem l1)
 . rw [hb.cell hg.lt, hg.cell, Nat.add_assoc]; exact hx _ _ (List.getElem?_eq_getElem l2)
theorem zlx (es : List (Str × Str)) (A : Option Addr) (c : Nat) (w : World) (h : SlC w 68 (.slice A es.length c) es.length (pcells es)) (hn : es.length <= 1000) (hs : (es.map lsz).sum <= 100000) :
   Calls Tryz.prog 168 #[.slice A es.length c, .func (.func 127) #[] #[]] w fun e w' => e = .returned (.int .i64 ((es.map lsz).sum : Nat)) /\ Below w.heap.size w w' := by
 obtain ⟨sz, hsz⟩ : ∃ l : List Nat, l = es.map lsz := ⟨_, rfl⟩
 have hszl : sz.length = es.length := by rw [hsz, List.length_map]
 have hall : ∀ k (hk : k < es.length), (es[k].1.size + es[k].2.size <= 100000) /\ (sz.take (k + 1)).sum = (sz.take k).sum + lsz es[k] /\ (sz.take k).sum <= 100000 /\ (sz.take (k + 1)).sum <= 100000 := by
  intro k hk
  have h1 := zcd sz (k + 1)
  have h2 := zcd sz k
  have h3 := zdl sz k (by omega)
  have h4 : sz[k]'(by omega) = lsz es[k] := by simp only [hsz, List.getElem_map]
  rw [h4] at h3
  rw [hsz] at h1 h2
  rw [hsz] at h3 ⊢
  refine ⟨?_, h3, by omega, by omega⟩
  have h5 : lsz es[k] <= 100000 := by omega
  unfold lsz at h5
  omega
 have H := zaa h
 have HALL := zaa hall
 have HSZ := zaa hsz
 have HSL := zaa hszl
 clear h hall hszl hsz hs
 obtain ⟨n, hn'⟩ : ∃ n, n = es.length := ⟨_, rfl⟩
 rw [<- hn'] at hn ⊢
 have HN := zaa hn'
 clear hn'
 go_enter Tryz.func168, Tryz.ntmps168
 go_wp2
 go_loopw [5, 10] (fun s i wr => ∃ k : Nat, k <= n /\ i = .int .i64 k /\ s = .int .i64 ((sz.take k).sum : Nat) /\ Below w.heap.size w wr) (fun _ i _ => n - (intOf i).toNat)
 case atStart => exact ⟨0, by omega, rfl, rfl, Below.refl _ _⟩
 case round =>
  obtain ⟨k, hk, rfl, rfl, hb⟩ := hrel
  by_cases hlt : k < n
  . have hk' : k < es.length := by have := HN.out; omega
    obtain ⟨g, o, u, v, hA, hu, hv, c1, c2, hg⟩ := (HN.out ▸ H.out).cells_at hb hlt
    obtain ⟨z1, z2, z3, z4⟩ := HALL.out k hk'
    have hc := zcz es k hk'
    rw [hc.1] at hu
    rw [hc.2] at hv
    injection hu with hu
    injection hv with hv
    subst hu
    subst hv
    subst hA
    have Z1 := zaa z1
    have Z2 := zaa z2
    have Z3 := zaa z3
    have Z4 := zaa z4
    have hgr : g < wr.heap.size := Nat.lt_of_lt_of_le hg hb.size
    clear hc z1 z2 z3 z4
    obtain ⟨sk, hsk⟩ : ∃ s, s = (sz.take k).sum := ⟨_, rfl⟩
    have q1 : sk <= 100000 := by rw [hsk]; exact Z3.out
    rw [<- hsk]
    have HSK := zaa hsk
    clear hsk
    obtain ⟨z, hz⟩ : ∃ z, z = lsz es[k] := ⟨_, rfl⟩
    have q2 : z <= 100000 := by have := Z2.out; have := Z4.out; omega
    have HZ := zaa hz
    clear hz
    go_wp2_with (go_at_call 127; refine (zfj es[k].1 es[k].2 z _ Z1.out HZ.out).mono ?_; rintro e w1 ⟨rfl, hb1⟩)
    go_roundw
    case rel =>
     refine ⟨k + 1, by omega, by go_num, ?_, ?_⟩
     . have h2 := Z2.out
       rw [<- HSK.out, <- HZ.out] at h2
       rw [h2]
       go_num
     . have hsz' : w.heap.size <= wr.heap.size := hb.size
       refine (hb.alloc hsz' _).trans (hb1.mono ?_)
       simp
       omega
    case measure => simp [intOf]; omega
  . go_wp2
    go_ret
    refine ⟨zdu ?_, hb⟩
    have : k = n := by omega
    subst this
    rw [<- HSZ.out, List.take_of_length_le (by have := HSL.out; have := HN.out; omega)]
theorem zod {K : Type} (es : List (Str × K)) (bs : List Nat) (A : Option Addr) (c : Nat) (w : World) (h : SlC w 139 (.slice A es.length c) es.length (kcells es bs)) (hn : es.length <= 1000) (hs : (es.map ksz).sum <= 100000) (hbs : bs.length = es.length) :
   Calls Tryz.prog 169 #[.slice A es.length c, .func (.func 130) #[] #[]] w fun e w' => e = .returned (.int .i64 ((es.map ksz).sum : Nat)) /\ Below w.heap.size w w' := by
 obtain ⟨sz, hsz⟩ : ∃ l : List Nat, l = es.map ksz := ⟨_, rfl⟩
 have hszl : sz.length = es.length := by rw [hsz, List.length_map]
 have hall : ∀ k (hk : k < es.length), (es[k].1.size <= 100000) /\ (sz.take (k + 1)).sum = (sz.take k).sum + ksz es[k] /\ (sz.take k).sum <= 100000 /\ (sz.take (k + 1)).sum <= 100000 := by
  intro k hk
  have h1 := zcd sz (k + 1)
  have h2 := zcd sz k
  have h3 := zdl sz k (by omega)
  have h4 : sz[k]'(by omega) = ksz es[k] := by simp only [hsz, List.getElem_map]
  rw [h4] at h3
  rw [hsz] at h1 h2
  rw [hsz] at h3 ⊢
  refine ⟨?_, h3, by omega, by omega⟩
  have h5 : ksz es[k] <= 100000 := by omega
  unfold ksz at h5
  omega
 have H := zaa h
 have HALL := zaa hall
 have HSZ := zaa hsz
 have HSL := zaa hszl
 clear h hall hszl hsz hs
 obtain ⟨n, hn'⟩ : ∃ n, n = es.length := ⟨_, rfl⟩
 rw [<- hn'] at hn ⊢
 have HN := zaa hn'
 clear hn'
 go_enter Tryz.func169, Tryz.ntmps169
 go_wp2
 go_loopw [5, 10] (fun s i wr => ∃ k : Nat, k <= n /\ i = .int .i64 k /\ s = .int .i64 ((sz.take k).sum : Nat) /\ Below w.heap.size w wr) (fun _ i _ => n - (intOf i).toNat)
 case atStart => exact ⟨0, by omega, rfl, rfl, Below.refl _ _⟩
 case round =>
  obtain ⟨k, hk, rfl, rfl, hb⟩ := hrel
  by_cases hlt : k < n
  . have hk' : k < es.length := by have := HN.out; omega
    obtain ⟨g, o, u, v, hA, hu, hv, c1, c2, hg⟩ := (HN.out ▸ H.out).cells_at hb hlt
    obtain ⟨z1, z2, z3, z4⟩ := HALL.out k hk'
    have hc := zco es bs k hk' (by omega)
    rw [hc.1] at hu
    rw [hc.2] at hv
    injection hu with hu
    injection hv with hv
    subst hu
    subst hv
    subst hA
    have Z1 := zaa z1
    have Z2 := zaa z2
    have Z3 := zaa z3
    have Z4 := zaa z4
    have hgr : g < wr.heap.size := Nat.lt_of_lt_of_le hg hb.size
    clear hc z1 z2 z3 z4
    obtain ⟨sk, hsk⟩ : ∃ s, s = (sz.take k).sum := ⟨_, rfl⟩
    have q1 : sk <= 100000 := by rw [hsk]; exact Z3.out
    rw [<- hsk]
    have HSK := zaa hsk
    clear hsk
    obtain ⟨z, hz⟩ : ∃ z, z = ksz es[k] := ⟨_, rfl⟩
    have q2 : z <= 100000 := by have := Z2.out; have := Z4.out; omega
    have HZ := zaa hz
    clear hz
    go_wp2_with (go_at_call 130; refine (zf0 es[k].1 (bs[k]'(by omega)) z _ Z1.out HZ.out).mono ?_; rintro e w1 ⟨rfl, hb1⟩)
    go_roundw
    case rel =>
     refine ⟨k + 1, by omega, by go_num, ?_, ?_⟩
     . have h2 := Z2.out
       rw [<- HSK.out, <- HZ.out] at h2
       rw [h2]
       go_num
     . have hsz' : w.heap.size <= wr.heap.size := hb.size
       refine (hb.alloc hsz' _).trans (hb1.mono ?_)
       simp
       omega
    case measure => simp [intOf]; omega
  . go_wp2
    go_ret
    refine ⟨zdu ?_, hb⟩
    have : k = n := by omega
    subst this
    rw [<- HSZ.out, List.take_of_length_le (by have := HSL.out; have := HN.out; omega)]
end Go.Proofs.YtemondlgcmpbbaaGreatDoor
namespace Go.Proofs.YtemondlgcmpbbaaGreatDoor
set_option maxRecDepth 100000
theorem zoe : ∀ (h : Nat) (lo : Str) (hi : Option Str) (c : Tr h), WF h lo hi c -> Tr.full h c = true -> Rtl h c -> Reg h (Tr.split h c).1 /\ Reg h (Tr.split h c).2.2
 | 0, lo, hi, c, hw, hf, _ => by
   have hs : 116 < zdd (Nd.es c) := of_decide_eq_true hf
   have hel := zf7 hw
   obtain ⟨q1, q2, q3, q4⟩ := zfq ((Nd.es c).map lsz) 22 (by intro x hx; obtain ⟨e, he, rfl⟩ := List.mem_map.1 hx; exact hel e he) (by unfold zdd at hs; omega)
   have hsum := zgw lsz (Nd.es c) (zba ((Nd.es c).map lsz))
   rw [zhd] at q3 q4
   have l1 := zht (l := (Nd.es c).take (zba ((Nd.es c).map lsz))) fun e he => hel e (List.mem_of_mem_take he)
   have l2 := zht (l := (Nd.es c).drop (zba ((Nd.es c).map lsz))) fun e he => hel e (List.mem_of_mem_drop he)
   unfold zdd at hs l1 l2
   refine ⟨?_, ?_⟩
   . show 2 <= ((Nd.es c).take (zba ((Nd.es c).map lsz))).length; omega
   . show 2 <= ((Nd.es c).drop (zba ((Nd.es c).map lsz))).length; omega
 | h + 1, lo, hi, c, hw, hf, hr => by
   have hs : 116 < ksum (Nd.es c) := of_decide_eq_true hf
   have hel := zdp (show Chain (WF h) lo hi (Nd.es c) from hw)
   obtain ⟨q1, q2, q3, q4⟩ := zfq ((Nd.es c).map ksz) 15 (by intro x hx; obtain ⟨e, he, rfl⟩ := List.mem_map.1 hx; exact hel e he) (by unfold ksum at hs; omega)
   have hsum := zgw ksz (Nd.es c) (zba ((Nd.es c).map ksz))
   rw [zhd] at q3 q4
   have l1 := ze8 (l := (Nd.es c).take (zba ((Nd.es c).map ksz))) fun e he => hel e (List.mem_of_mem_take he)
   have l2 := ze8 (l := (Nd.es c).drop (zba ((Nd.es c).map ksz))) fun e he => hel e (List.mem_of_mem_drop he)
   unfold ksum at hs l1 l2
   refine ⟨⟨?_, fun e he => hr.2 e (List.mem_of_mem_take he)⟩, ⟨?_, fun e he => hr.2 e (List.mem_of_mem_drop he)⟩⟩
   . show 3 <= ((Nd.es c).take (zba ((Nd.es c).map ksz))).length; omega
   . show 3 <= ((Nd.es c).drop (zba ((Nd.es c).map ksz))).length; omega
def AllR (h : Nat) (es : List (Str × Tr h)) : Prop := ∀ e ∈ es, Reg h e.2
theorem AllR.app {h : Nat} {a b : List (Str × Tr h)} (ha : AllR h a) (hb : AllR h b) : AllR h (a ++ b) := fun e he => by
 rcases List.mem_append.1 he with he | he
 . exact ha e he
 . exact hb e he
theorem zlc {h : Nat} {lo : Str} {hi : Option Str} {c : Tr h} (hw : WF h lo hi c) (hr : Rtl h c) (hc : Reg h c \/ Tr.full h c = true) : AllR h (fix h lo c) /\ 1 <= (fix h lo c).length := by
 unfold fix
 cases hf : Tr.full h c with
 | false =>
   rcases hc with hc | hc
   . exact ⟨fun e he => by rw [List.mem_singleton.1 he]; exact hc, by simp⟩
   . rw [hc] at hf; cases hf
 | true =>
   obtain ⟨f3, f4⟩ := zoe h lo hi c hw hf hr
   refine ⟨?_, by simp⟩
   intro e he
   simp only [if_true, List.mem_cons, List.not_mem_nil, or_false] at he
   rcases he with rfl | rfl
   . exact f3
   . exact f4
theorem zu8 {h : Nat} {lo k : Str} {hi : Option Str} {A B : List (Str × Tr h)} {c0 c : Tr h} (hc : Chain (WF h) lo hi (A ++ (k, c0) :: B)) (hw : WF h k (zch hi B) c)
   (hA : AllR h A) (hB : AllR h B) (hr : Rtl h c) (hne : A ≠ [] \/ B ≠ []) : AllR h (zbr h A k c B) /\ A.length + B.length <= (zbr h A k c B).length := by
 obtain ⟨_, hk8, hrep, _, _⟩ := zci hc
 have hnew : Chain (WF h) lo hi (A ++ (k, c) :: B) := by
  have := hrep [(k, c)] ⟨rfl, hk8, .inl ⟨rfl, hw⟩⟩
  simpa using this
 unfold zbr
 cases ht : Tr.thin h c with
 | false =>
   have h45 : 45 <= Tr.size h c := by have := of_decide_eq_false ht; omega
   obtain ⟨f2, f3⟩ := zlc hw hr (.inl (znk h _ _ c hw hr h45))
   simp only [Bool.false_eq_true, if_false]
   refine ⟨(hA.app f2).app hB, ?_⟩
   simp only [List.length_append]; omega
 | true =>
   simp only [if_true]
   cases B with
   | cons d B =>
     obtain ⟨k2, d⟩ := d
     obtain ⟨t1, t2, t3, t4, t5, t6, t7⟩ := zfp hnew
     obtain ⟨j1, _⟩ := zhs h k k2 _ c d t1 t2 t3 t4
     have jr := zlu h k2 _ c d t2 (.inl ⟨hr, hB (k2, d) (by simp)⟩)
     obtain ⟨f2, f3⟩ := zlc j1 (jr.rtl h _) (.inl jr)
     refine ⟨(hA.app f2).app fun e he => hB e (by simp [he]), ?_⟩
     simp only [List.length_append, List.length_cons]; omega
   | nil =>
     cases hl : A.getLast? with
     | none =>
       have : A = [] := by simpa using hl
       subst this
       rcases hne with h | h <;> exact absurd rfl h
     | some b =>
       obtain ⟨kb, b⟩ := b
       have hAe := zgj A _ hl
       have hnew' : Chain (WF h) lo hi (A.dropLast ++ (kb, b) :: (k, c) :: []) := by
        have := hnew
        rw [hAe] at this
        simpa using this
       obtain ⟨t1, t2, t3, t4, t5, t6, t7⟩ := zfp hnew'
       obtain ⟨j1, _⟩ := zhs h kb k _ b c t1 t2 t3 t4
       have jr := zlu h k _ b c t2 (.inr ⟨hA (kb, b) (by rw [hAe]; simp), hr⟩)
       obtain ⟨f2, f3⟩ := zlc j1 (jr.rtl h _) (.inl jr)
       have hAl : A.length = A.dropLast.length + 1 := by conv => lhs; rw [hAe]
                                                         simp
       refine ⟨AllR.app (fun e he => hA e (by rw [hAe]; simp [he])) f2, ?_⟩
       simp only [List.length_append, List.length_nil]; omega
theorem zq2 {h : Nat} {lo : Str} {hi : Option Str} {c : Tr h} (hw : WF h lo hi c) (ht : Top h c) : zbr h [] lo c [] = [(lo, c)] \/ ((zbr h [] lo c []).length = 2 /\ AllR h (zbr h [] lo c [])) := by
 have he : zbr h [] lo c [] = fix h lo c := by
  unfold zbr
  cases Tr.thin h c <;> simp
 rw [he]
 cases hf : Tr.full h c with
 | false => exact .inl (by unfold fix; rw [hf]; rfl)
 | true =>
   right
   have hgt : 116 < Tr.size h c := of_decide_eq_true hf
   have hr : Rtl h c := by
    cases h with
    | zero => exact ht
    | succ h =>
      rcases ht with ht | ⟨e, he, _⟩
      . exact ht
      . exfalso
        have hel := ze8 (zdp (show Chain (WF h) lo hi (Nd.es c) from hw))
        have : Tr.size (h + 1) c = ksum (Nd.es c) := rfl
        rw [he] at hel this
        simp only [List.length_singleton] at hel
        omega
   exact ⟨by unfold fix; rw [hf]; rfl, (zlc hw hr (.inr hf)).1⟩
theorem zof {h : Nat} {lo key : Str} {hi : Option Str} {X : List (Str × Tr h)} (hX : Chain (WF h) lo hi X) (hk : slt key lo = false) (hh : zbj hi key) (f : Tr h -> Tr h) (g : Tr h -> Prop)
   (hg : ∀ A k c B, X = A ++ (k, c) :: B -> slt key k = false -> zbj (zch none B) key -> g c)
   (hf : ∀ k hi' c, WF h k hi' c -> slt key k = false -> zbj hi' key -> g c -> Reg h c -> WF h k hi' (f c) /\ Rtl h (f c))
   (hall : AllR h X) (h2 : 2 <= X.length) : AllR h (za8 h key X f) /\ X.length <= (za8 h key X f).length + 1 := by
 obtain ⟨A, ⟨k, c⟩, B, hXe, hl, h5, h6⟩ := zde hX hk
 have hc : Chain (WF h) lo hi (A ++ (k, c) :: B) := by rw [<- hXe]; exact hX
 obtain ⟨_, _, m3⟩ := zds hc h5 h6
 obtain ⟨f1, f2⟩ := hf k _ c (zci hc).1 h5 (m3 hh) (hg A k c B hXe h5 h6) (hall (k, c) (by rw [hXe]; simp))
 have hne : A ≠ [] \/ B ≠ [] := by
  rcases A with _ | ⟨a, A⟩
  . rcases B with _ | ⟨b, B⟩
    . rw [hXe] at h2; simp at h2
    . exact .inr (by simp)
  . exact .inl (by simp)
 obtain ⟨r1, r2⟩ := zu8 hc f1 (fun e he => hall e (by rw [hXe]; simp [he])) (fun e he => hall e (by rw [hXe]; simp [he])) f2 hne
 have hon : za8 h key X f = zbr h A k (f c) B := by
  unfold za8
  rw [hl, hXe, List.drop_left, List.take_left]
 rw [hon]
 refine ⟨r1, ?_⟩
 rw [hXe]
 simp only [List.length_append, List.length_cons]
 omega
theorem ze2 {h : Nat} {X : List (Str × Tr h)} (h1 : 1 <= X.length) (hall : AllR h X) : Top (h + 1) (fresh X : Nd (Tr h)) := by
 by_cases hlen : 2 <= X.length
 . exact .inl ⟨hlen, hall⟩
 . obtain ⟨e, he⟩ := List.length_eq_one_iff.1 (show X.length = 1 by omega)
   exact .inr ⟨e, he, ((hall e (by rw [he]; simp)).rtl h _).top h _⟩
theorem zja : ∀ (h : Nat) (lo : Str) (hi : Option Str) (n : Tr h) (key v : Str), WF h lo hi n -> slt key lo = false -> zbj hi key -> zck key -> zdi v ->
   (Top h n -> Top h (Tr.put h n key v)) /\ (Reg h n -> Rtl h (Tr.put h n key v))
 | 0, _, _, n, key, v, _, _, _, _, _ => by
   have hp : 1 <= (zb7 key v (Nd.es n)).length := by
    unfold zb7; simp only [List.length_append, List.length_cons]; omega
   exact ⟨fun _ => hp, fun _ => hp⟩
 | h + 1, lo, hi, n, key, v, hw, hk, hh, h1, h2 => by
   have key_ : 2 <= (Nd.es n).length -> AllR h (Nd.es n) -> AllR h (za8 h key (Nd.es n) fun c => Tr.put h c key v) /\ (Nd.es n).length <= (za8 h key (Nd.es n) fun c => Tr.put h c key v).length + 1 := by
    intro h2' hreg
    refine zof (show Chain (WF h) lo hi (Nd.es n) from hw) hk hh _ (fun _ => True) (fun _ _ _ _ _ _ _ => trivial) ?_ hreg h2'
    intro k hi' c hc ck ch _ cr
    exact ⟨(zeq h k hi' c key v hc ck ch h1 h2).1, (zja h k hi' c key v hc ck ch h1 h2).2 cr⟩
   constructor
   . rintro (ht | ⟨e, he, ht⟩)
     . obtain ⟨r1, r2⟩ := key_ ht.1 ht.2
       exact ze2 (by have := ht.1; omega) r1
     . have hw' : Chain (WF h) lo hi [e] := by rw [<- he]; exact hw
       obtain ⟨e1, _, e3⟩ := hw'
       rcases e3 with ⟨_, hwe⟩ | ⟨_, _, _, _, hcx⟩
       . have i1 := (zja h lo hi e.2 key v hwe hk hh h1 h2).1 ht
         have hwp := (zeq h lo hi e.2 key v hwe hk hh h1 h2).1
         have hon : za8 h key (Nd.es n) (fun c => Tr.put h c key v) = zbr h [] lo (Tr.put h e.2 key v) [] := by rw [he, zgm, e1]
         show Top (h + 1) (fresh (za8 h key (Nd.es n) fun c => Tr.put h c key v) : Nd (Tr h))
         rw [hon]
         rcases zq2 hwp i1 with m1 | ⟨m1, m2⟩
         . rw [m1]; exact .inr ⟨_, rfl, i1⟩
         . exact ze2 (by omega) m2
       . exact hcx.elim
   . intro hr
     obtain ⟨r1, r2⟩ := key_ (by have := hr.1; omega) hr.2
     exact ⟨by have := hr.1; show 2 <= (za8 h key (Nd.es n) fun c => Tr.put h c key v).length; omega, r1⟩
theorem zjb : ∀ (h : Nat) (lo : Str) (hi : Option Str) (n : Tr h) (key : Str), WF h lo hi n -> slt key lo = false -> zbj hi key -> there key (Tr.pairs h n) = true ->
   (Top h n -> 2 <= (Tr.pairs h n).length -> Top h (Tr.drop h n key)) /\ (Reg h n -> Rtl h (Tr.drop h n key))
 | 0, _, _, n, key, hw, _, _, ht => by
   have hl := (zdt key (Nd.es n) hw.1 ht).1
   refine ⟨fun _ h2 => ?_, fun hr => ?_⟩
   . have h2' : 2 <= (Nd.es n).length := h2
     show 1 <= (zby key (Nd.es n)).length
     omega
   . have h2' : 2 <= (Nd.es n).length := hr
     show 1 <= (zby key (Nd.es n)).length
     omega
 | h + 1, lo, hi, n, key, hw, hk, hh, hth => by
   have key_ : 2 <= (Nd.es n).length -> AllR h (Nd.es n) -> AllR h (za8 h key (Nd.es n) fun c => Tr.drop h c key) /\ (Nd.es n).length <= (za8 h key (Nd.es n) fun c => Tr.drop h c key).length + 1 := by
    intro h2' hreg
    refine zof (show Chain (WF h) lo hi (Nd.es n) from hw) hk hh _ (fun c => there key (Tr.pairs h c) = true) ?_ ?_ hreg h2'
    . intro A k c B hX hk5 hk6
      refine zkh (lo := lo) (hi := hi) (A := A) (B := B) (k := k) ?_ hk5 hk6 ?_
      . rw [<- hX]; exact hw
      . rw [<- hX]; exact hth
    . intro k hi' c hc ck ch cg cr
      exact ⟨(zf8 h k hi' c key hc ck ch cg).1, (zjb h k hi' c key hc ck ch cg).2 cr⟩
   constructor
   . rintro (ht | ⟨e, he, ht⟩) h2
     . obtain ⟨r1, r2⟩ := key_ ht.1 ht.2
       exact ze2 (by have := ht.1; omega) r1
     . have hw' : Chain (WF h) lo hi [e] := by rw [<- he]; exact hw
       have hp : Tr.pairs (h + 1) n = Tr.pairs h e.2 := by
        show kpairs h (Nd.es n) = _
        rw [he]; simp [kpairs]
       obtain ⟨e1, _, e3⟩ := hw'
       rcases e3 with ⟨_, hwe⟩ | ⟨_, _, _, _, hcx⟩
       . rw [hp] at hth h2
         have i1 := (zjb h lo hi e.2 key hwe hk hh hth).1 ht h2
         have hwp := (zf8 h lo hi e.2 key hwe hk hh hth).1
         have hon : za8 h key (Nd.es n) (fun c => Tr.drop h c key) = zbr h [] lo (Tr.drop h e.2 key) [] := by rw [he, zgm, e1]
         show Top (h + 1) (fresh (za8 h key (Nd.es n) fun c => Tr.drop h c key) : Nd (Tr h))
         rw [hon]
         rcases zq2 hwp i1 with m1 | ⟨m1, m2⟩
         . rw [m1]; exact .inr ⟨_, rfl, i1⟩
         . exact ze2 (by omega) m2
       . exact hcx.elim
   . intro hr
     obtain ⟨r1, r2⟩ := key_ (by have := hr.1; omega) hr.2
     exact ⟨by have := hr.1; show 2 <= (za8 h key (Nd.es n) fun c => Tr.drop h c key).length; omega, r1⟩
theorem zed : ∀ (h : Nat) (lo : Str) (hi : Option Str) (n : Tr h), WF h lo hi n -> Top h n -> 1 <= Tr.len h n /\ Tr.len h n <= (Tr.pairs h n).length /\ Tr.size h n <= 22 * (Tr.pairs h n).length
 | 0, _, _, n, hw, ht => ⟨ht, Nat.le_refl _, zht (zf7 hw)⟩
 | h + 1, lo, hi, n, hw, ht => by
   have hc : Chain (WF h) lo hi (Nd.es n) := hw
   have hks := ze8 (zdp hc)
   have hlen : 1 <= (Nd.es n).length /\ (Nd.es n).length <= (kpairs h (Nd.es n)).length := by
    rcases ht with ht | ⟨e, he, ht⟩
    . have := zpa ht.2
      exact ⟨by have := ht.1; omega, by omega⟩
    . rw [he] at hc
      obtain ⟨_, _, e3⟩ := hc
      rcases e3 with ⟨_, hwe⟩ | ⟨_, _, _, _, hcx⟩
      . obtain ⟨i1, i2, _⟩ := zed h _ _ e.2 hwe ht
        rw [he]
        refine ⟨by simp, ?_⟩
        simp [kpairs]
        omega
      . exact hcx.elim
   refine ⟨hlen.1, hlen.2, ?_⟩
   show ksum (Nd.es n) <= 22 * (kpairs h (Nd.es n)).length
   omega
structure TR (t : Tree) : Prop where
 tw : TW t
 top : ∀ h n, t.root = some ⟨h, n⟩ -> Top h n
theorem TR.empty : TR ⟨none, 0⟩ := ⟨TW.empty, fun _ _ h => by cases h⟩
theorem zu9 {h : Nat} {n : Tr h} (hw : WF h zbz none n) (ht : Top h n) : Top (zc2 h n).1 (zc2 h n).2 := by
 unfold zc2
 cases hfl : Tr.full h n with
 | false => exact ht
 | true =>
   have hgt : 116 < Tr.size h n := of_decide_eq_true hfl
   have hr : Rtl h n := by
    cases h with
    | zero => exact ht
    | succ h =>
      rcases ht with ht | ⟨e, he, _⟩
      . exact ht
      . exfalso
        have hel := ze8 (zdp (show Chain (WF h) zbz none (Nd.es n) from hw))
        have : Tr.size (h + 1) n = ksum (Nd.es n) := rfl
        rw [he] at hel this
        simp only [List.length_singleton] at hel
        omega
   obtain ⟨f3, f4⟩ := zoe h _ _ n hw hfl hr
   refine .inl ⟨by show 2 <= 2; omega, fun e he => ?_⟩
   rcases List.mem_cons.1 he with rfl | he
   . exact f3
   . rw [List.mem_singleton.1 he]; exact f4
theorem TR.put {t : Tree} (ht : TR t) {key v : Str} (h1 : zck key) (h2 : zdi v) : TR (t.put key v) := by
 refine ⟨(zkl ht.tw h1 h2).2, fun h' n' he => ?_⟩
 obtain ⟨h, n, hr, hp, _, _⟩ := zkk t key v
 rw [hp] at he
 injection he with he
 have hwt : WF h zbz none n /\ (Top h n \/ (⟨h, n⟩ : (h : Nat) × Tr h) = ⟨0, zbk⟩) := by
  rcases hr with hr | ⟨_, hr⟩
  . exact ⟨ht.tw.some_ h n hr, .inl (ht.top h n hr)⟩
  . exact ⟨by cases hr; exact zfg, .inr hr⟩
 have hpw := (zeq h _ _ n key v hwt.1 (za5 key) (zcj key) h1 h2).1
 have htop : Top h (Tr.put h n key v) := by
  rcases hwt.2 with h3 | h3
  . exact (zja h _ _ n key v hwt.1 (za5 key) (zcj key) h1 h2).1 h3
  . cases h3
    show 1 <= (zb7 key v []).length
    simp [zb7]
 have := zu9 hpw htop
 rw [he] at this
 exact this
theorem zly : ∀ (h : Nat) (n : Tr h), Top h n -> Top (shrink h n).1 (shrink h n).2
 | 0, n, ht => ht
 | h + 1, n, ht => by
   cases hx : Nd.es n with
   | nil =>
     exfalso
     rcases ht with ht | ⟨e, he, _⟩
     . have := ht.1; rw [hx] at this; simp at this
     . rw [hx] at he; cases he
   | cons e X =>
     cases X with
     | nil =>
       rw [zgn hx]
       rcases ht with ht | ⟨e', he, hte⟩
       . exfalso; have := ht.1; rw [hx] at this; simp at this
       . rw [hx] at he
         injection he with he _
         subst he
         exact zly h e.2 hte
     | cons d X => rw [zi9 hx]; exact ht
theorem TR.delete {t : Tree} (ht : TR t) (key : Str) : TR (t.delete key) := by
 refine ⟨(zhf ht.tw key).2, fun h' n' he => ?_⟩
 unfold Tree.delete at he
 cases hr : t.root with
 | none => rw [hr] at he; simp only at he; rw [hr] at he; cases he
 | some x =>
   obtain ⟨h, n⟩ := x
   rw [hr] at he
   simp only at he
   have hwn := ht.tw.some_ h n hr
   have hg : Tr.get h n key = zbs key (Tr.pairs h n) := zep h _ _ n key hwn (za5 key)
   have hth : there key (Tr.pairs h n) = (Tr.get h n key).isSome := by rw [hg, zcw]
   cases hs : (Tr.get h n key).isSome with
   | false => rw [hs] at he; simp only [Bool.false_eq_true, if_false] at he; exact ht.top h' n' he
   | true =>
     rw [hs] at he hth
     simp only [if_true] at he
     by_cases h0 : t.keys - 1 = 0
     . rw [if_pos h0] at he; cases he
     . rw [if_neg h0] at he
       injection he with he
       have hkp := ht.tw.keys_
       unfold Tree.pairs at hkp
       rw [hr] at hkp
       simp only at hkp
       have := zly h _ ((zjb h _ _ n key hwn (za5 key) (zcj key) hth).1 (ht.top h n hr) (by omega))
       rw [he] at this
       exact this
end Go.Proofs.YtemondlgcmpbbaaGreatDoor
namespace Go.Proofs.YtemondlgcmpbbaaGreatDoor
open Go.RowKit
set_option maxRecDepth 100000
theorem zdq (b blk gen c : Nat) (d : Bool) (pv : Value) (A : Option Addr) (w : World) (h : zer w b blk gen d pv (.slice A 0 c)) :
   Calls Tryz.prog 81 #[P b] w fun e w' => e = .returned (.bool true) /\ w = w' := by
 have c4 : w.cell? ⟨b, 4, none⟩ = some (.slice A 0 c) := by rw [Blk.cell h]; rfl
 clear h
 go_enter Tryz.func81, Tryz.ntmps81
 go_wp2
 go_ret
 exact ⟨zfi rfl, rfl⟩
theorem zee (b blk gen n c : Nat) (d : Bool) (pv : Value) (A : Option Addr) (w : World) (h : zer w b blk gen d pv (.slice A n c)) (hn : 1 <= n) (hn2 : n <= 1000) :
   Calls Tryz.prog 81 #[P b] w fun e w' => e = .returned (.bool false) /\ w = w' := by
 have c4 : w.cell? ⟨b, 4, none⟩ = some (.slice A n c) := by rw [Blk.cell h]; rfl
 have e0 : ((n : Int) == 0) = false := by rw [beq_eq_false_iff_ne]; omega
 clear h
 go_enter Tryz.func81, Tryz.ntmps81
 go_wp2
 go_ret
 exact ⟨zfi rfl, rfl⟩
theorem zin {w : World} {t : Tr 0} {b : Nat} {ds : List Nat} (h : Rep w 0 t b ds) : ∃ A1 c1 A2 c2, NodeIs w b (Nd.blk t) (Nd.gen t) (Nd.dirty t) A1 (Nd.es t).length c1 (pcells (Nd.es t)) A2 0 c2 [] /\ ds = zb2 (Nd.dirty t) b := by
 obtain ⟨pv, kv, h1, h2, h3, h4⟩ := h
 obtain ⟨A1, c1, rfl, _, _⟩ := h2.form
 obtain ⟨A2, c2, rfl, _, _⟩ := h3.form
 exact ⟨A1, c1, A2, c2, ⟨h1, h2, h3⟩, h4⟩
theorem zjc {w : World} {h : Nat} {t : Tr (h + 1)} {b : Nat} {ds : List Nat} (hr : Rep w (h + 1) t b ds) : ∃ A1 c1 A2 c2 bs dss, NodeIs w b (Nd.blk t) (Nd.gen t) (Nd.dirty t) A1 0 c1 [] A2 (Nd.es t).length c2 (kcells (Nd.es t) bs) /\ RepL (Rep w h) (Nd.es t) bs dss /\ ds = dss.flatten ++ zb2 (Nd.dirty t) b := by
 obtain ⟨pv, kv, bs, dss, h1, h2, h3, h4, h5⟩ := hr
 obtain ⟨A1, c1, rfl, _, _⟩ := h2.form
 obtain ⟨A2, c2, rfl, _, _⟩ := h3.form
 exact ⟨A1, c1, A2, c2, bs, dss, ⟨h1, h2, h3⟩, h4, h5⟩
theorem zlz (h : Nat) (t : Tr h) (b : Nat) (ds : List Nat) (w : World) (hr : Rep w h t b ds) (h1 : 1 <= Tr.len h t \/ h = 0) (hn : Tr.len h t <= 1000) :
   Calls Tryz.prog 81 #[P b] w fun e w' => e = .returned (.bool (h == 0)) /\ w = w' := by
 cases h with
 | zero => obtain ⟨A1, c1, A2, c2, hn, _⟩ := zin hr; exact zdq b _ _ c2 _ _ A2 w hn.node
 | succ h =>
   obtain ⟨A1, c1, A2, c2, bs, dss, hn', _, _⟩ := zjc hr
   exact zee b _ _ _ c2 _ _ A2 w hn'.node (by     rcases h1 with h1 | h1; · exact h1
                                                  . cases h1) hn
theorem zl0 (h : Nat) (t : Tr h) (b : Nat) (ds : List Nat) (w : World) (hr : Rep w h t b ds) (h1 : 1 <= Tr.len h t \/ h = 0) (hn : Tr.len h t <= 1000) (hs : Tr.size h t <= 100000) :
   Calls Tryz.prog 125 #[P b] w fun e w' => e = .returned (.int .i64 (Tr.size h t : Nat)) /\ Below w.heap.size w w' := by
 cases h with
 | zero =>
   have HL := zaa (zlz 0 t b ds w hr h1 hn)
   obtain ⟨A1, c1, A2, c2, hn', _⟩ := zin hr
   have c3 : w.cell? ⟨b, 3, none⟩ = some (.slice A1 (Nd.es t).length c1) := by rw [Blk.cell hn'.node]; rfl
   have HS := zaa (zlx (Nd.es t) A1 c1 w hn'.ps hn hs)
   clear hr hn' hs h1
   go_enter Tryz.func125, Tryz.ntmps125
   go_wp2_with (first | (go_at_call 81; refine HL.out.mono ?_; rintro e w' ⟨rfl, rfl⟩) | (go_at_call 168; refine HS.out.mono ?_; rintro e w1 ⟨rfl, hb1⟩))
   go_ret
   exact ⟨rfl, hb1⟩
 | succ h =>
   have HL := zaa (zlz (h + 1) t b ds w hr h1 hn)
   obtain ⟨A1, c1, A2, c2, bs, dss, hn', hl, _⟩ := zjc hr
   have c3 : w.cell? ⟨b, 4, none⟩ = some (.slice A2 (Nd.es t).length c2) := by rw [Blk.cell hn'.node]; rfl
   have HS := zaa (zod (Nd.es t) bs A2 c2 w hn'.ks hn hs hl.len.1)
   clear hr hn' hs h1 hl
   go_enter Tryz.func125, Tryz.ntmps125
   go_wp2_with (first | (go_at_call 81; refine HL.out.mono ?_; rintro e w' ⟨rfl, rfl⟩) | (go_at_call 169; refine HS.out.mono ?_; rintro e w1 ⟨rfl, hb1⟩))
   go_ret
   exact ⟨rfl, hb1⟩
theorem zl1 (h : Nat) (t : Tr h) (b : Nat) (ds : List Nat) (w : World) (hr : Rep w h t b ds) (h1 : 1 <= Tr.len h t \/ h = 0) (hn : Tr.len h t <= 1000) (hs : Tr.size h t <= 100000) :
   Calls Tryz.prog 85 #[P b] w fun e w' => e = .returned (.bool (Tr.full h t)) /\ Below w.heap.size w w' := by
 have HS := zaa (zl0 h t b ds w hr h1 hn hs)
 clear hr
 go_enter Tryz.func85, Tryz.ntmps85
 go_wp2_with (go_at_call 125; refine HS.out.mono ?_; rintro e w1 ⟨rfl, hb1⟩)
 go_ret
 refine ⟨zfi ?_, hb1⟩
 unfold Tr.full
 rw [decide_eq_decide]
 omega
theorem zsn (h : Nat) (t : Tr h) (b : Nat) (ds : List Nat) (w : World) (hr : Rep w h t b ds) (h1 : 1 <= Tr.len h t \/ h = 0) (hn : Tr.len h t <= 1000) (hs : Tr.size h t <= 100000) :
   Calls Tryz.prog 161 #[P b] w fun e w' => e = .returned (.bool (Tr.thin h t)) /\ Below w.heap.size w w' := by
 have HS := zaa (zl0 h t b ds w hr h1 hn hs)
 clear hr
 go_enter Tryz.func161, Tryz.ntmps161
 go_wp2_with (go_at_call 125; refine HS.out.mono ?_; rintro e w1 ⟨rfl, hb1⟩)
 go_ret
 refine ⟨zfi ?_, hb1⟩
 unfold Tr.thin
 rw [decide_eq_decide]
 omega
theorem zog (a b : Str) : (Op.bytesLess a.toList b.toList || a.toList == b.toList) = !slt b a := by
 show (slt a b || seq a b) = !slt b a
 rcases zj0 a b with h | h | h
 . rw [h, zbu h]; rfl
 . subst h; rw [zbb, zc1]; rfl
 . rw [h, zbu h, zcu (fun e => zcv h e.symm)]; rfl
theorem zl2 {K : Type} (key : Str) (es : List (Str × K)) (h : 1 <= es.length) : below key es < es.length := by
 unfold below
 have : (es.tail.takeWhile fun e => !slt key e.1).length <= es.tail.length := by
  have := (List.takeWhile_sublist (fun e : Str × K => !slt key e.1) (l := es.tail)).length_le
  exact this
 rw [List.length_tail] at this
 omega
theorem zfs {K : Type} (es : List (Str × K)) (bs : List Nat) (key : Str) (b blk gen c : Nat) (d : Bool) (pv : Value) (A : Option Addr) (w : World) (h : zer w b blk gen d pv (.slice A es.length c)) (hk : SlC w 139 (.slice A es.length c) es.length (kcells es bs)) (hbs : bs.length = es.length)
   (h1 : 1 <= es.length) (hn : es.length <= 1000) :
   Calls Tryz.prog 82 #[P b, .string key] w fun e w' => e = .returned (.int .i64 (below key es : Nat)) /\ w = w' := by
 have c4 : w.cell? ⟨b, 4, none⟩ = some (.slice A es.length c) := by rw [Blk.cell h]; rfl
 obtain ⟨ad, hA⟩ : ∃ g o, A = some ⟨g, o, none⟩ := by
  obtain ⟨g, o, u, v, hA, _⟩ := hk.cells_at (Below.refl _ _) (k := 0) (by omega)
  exact ⟨g, o, hA⟩
 obtain ⟨o, rfl⟩ := hA
 have hcell : ∀ k (hk' : k < es.length), w.cell? ⟨ad, o + k * 2, none⟩ = some (.string es[k].1) := by
  intro k hk'
  obtain ⟨g, o', u, v, hA, hu, _, hc, _⟩ := hk.cells_at (Below.refl _ _) hk'
  injection hA with hA
  injection hA with e1 e2
  subst e1; subst e2
  rw [hc, <- hu]
  exact (zco es bs k hk' (by omega)).1
 have HC := zaa hcell
 obtain ⟨n, hn'⟩ : ∃ n, n = es.length := ⟨_, rfl⟩
 rw [<- hn'] at hn h1 c4
 have HN := zaa hn'
 clear hcell hn' h hk hbs
 unfold P
 go_enter Tryz.func82, Tryz.ntmps82
 go_wp2
 go_loop [5] (fun i => ∃ k : Nat, 1 <= k /\ k <= n /\ k - 1 + ((es.drop k).takeWhile fun e => !slt key e.1).length = below key es /\ i = .int .i64 k) (fun i => n - (intOf i).toNat)
 case atStart => exact ⟨1, by omega, by omega, by unfold below; rw [List.drop_one]; omega, rfl⟩
 case round =>
  obtain ⟨k, k1, k2, hk, rfl⟩ := hrel
  have HK := zaa hk
  clear hk
  by_cases hlt : k < n
  . have hk' : k < es.length := by have := HN.out; omega
    have cc := HC.out k hk'
    have hd : es.drop k = es[k] :: es.drop (k + 1) := List.drop_eq_getElem_cons hk'
    cases ht : slt key es[k].1 with
    | false =>
      have hleq : (Op.bytesLess es[k].1.toList key.toList || es[k].1.toList == key.toList) = true := by rw [zog, ht]; rfl
      have HD := zaa hd
      have HT := zaa ht
      clear hd ht
      obtain ⟨ek, hek⟩ : ∃ ek, ek = es[k].1 := ⟨_, rfl⟩
      rw [<- hek] at cc hleq
      have HEK := zaa hek
      clear hek
      go_wp2
      go_round
      case rel =>
       refine ⟨k + 1, by omega, by omega, ?_, by go_num⟩
       have h3 := HK.out
       rw [HD.out, List.takeWhile_cons_of_pos (by rw [HT.out]; rfl), List.length_cons] at h3
       omega
      case measure => simp [intOf]; omega
    | true =>
      have hleq : (Op.bytesLess es[k].1.toList key.toList || es[k].1.toList == key.toList) = false := by rw [zog, ht]; rfl
      have HD := zaa hd
      have HT := zaa ht
      clear hd ht
      obtain ⟨ek, hek⟩ : ∃ ek, ek = es[k].1 := ⟨_, rfl⟩
      rw [<- hek] at cc hleq
      have HEK := zaa hek
      clear hek
      go_wp2
      go_ret
      refine ⟨zdu ?_, rfl⟩
      have h3 := HK.out
      rw [HD.out, List.takeWhile_cons_of_neg (by rw [HT.out]; simp), List.length_nil] at h3
      omega
  . go_wp2
    go_ret
    refine ⟨zdu ?_, rfl⟩
    have h3 := HK.out
    rw [List.drop_of_length_le (by have := HN.out; omega), List.takeWhile_nil, List.length_nil] at h3
    omega
theorem zhg (s : Str) (w : World) : Calls Tryz.prog 165 #[.string s] w fun e w' => e = .returned (.bool false) /\ w = w' := by
 go_enter Tryz.func165, Tryz.ntmps165
 go_wp2
 go_ret
 exact ⟨zfi (by simp), rfl⟩
def zd1 (a b : Str) : Int := if slt a b then -1 else if slt b a then 1 else 0
theorem znl (x y : Str) (w : World) : Calls Tryz.prog 123 #[.string x, .string y] w fun e w' => e = .returned (.int .i64 (zd1 x y)) /\ w = w' := by
 rcases zj0 x y with h | h | h
 . have hv : zd1 x y = -1 := by unfold zd1; rw [h]; rfl
   rw [hv]
   unfold slt at h
   clear hv
   go_enter Tryz.func123, Tryz.ntmps123
   go_wp2_with (go_at_call 165; refine (zhg _ _).mono ?_; rintro e w' ⟨rfl, rfl⟩)
   go_ret
   exact ⟨rfl, rfl⟩
 . subst h
   have hv : zd1 x x = 0 := by unfold zd1; rw [zbb]; rfl
   have h := zbb x
   rw [hv]
   unfold slt at h
   clear hv
   go_enter Tryz.func123, Tryz.ntmps123
   go_wp2_with (go_at_call 165; refine (zhg _ _).mono ?_; rintro e w' ⟨rfl, rfl⟩)
   go_ret
   exact ⟨rfl, rfl⟩
 . have hv : zd1 x y = 1 := by unfold zd1; rw [zbu h, h]; rfl
   have h2 : Op.bytesLess x.toList y.toList = false := zbu h
   have h3 : (x.toList == y.toList) = false := zcu (fun e => zcv h e.symm)
   rw [hv]
   clear hv h
   go_enter Tryz.func123, Tryz.ntmps123
   go_wp2_with (go_at_call 165; refine (zhg _ _).mono ?_; rintro e w' ⟨rfl, rfl⟩)
   go_ret
   exact ⟨rfl, rfl⟩
theorem zfk (k v key : Str) (w : World) : Calls Tryz.prog 122 #[.agg #[.string k, .string v], .string key] w fun e w' => e = .returned (.int .i64 (zd1 k key)) /\ Below w.heap.size w w' := by
 go_enter Tryz.func122, Tryz.ntmps122
 go_wp2_with (go_at_call 123; refine (znl _ _ _).mono ?_; rintro e w' ⟨rfl, rfl⟩)
 go_ret
 exact ⟨rfl, (Below.refl _ _).alloc (Nat.le_refl _) _⟩
theorem zl3 {K : Type} (key : Str) (es : List (Str × K)) (hr : zcs es) (k : Nat) (hk : k < es.length) : slt es[k].1 key = decide (k < place key es) := by
 obtain ⟨h1, h2⟩ := zfx key es hr
 by_cases h : k < place key es
 . rw [decide_eq_true h]
   refine h1 _ ?_
   rw [List.mem_take_iff_getElem]
   exact ⟨k, by omega, rfl⟩
 . rw [decide_eq_false h]
   refine h2 _ ?_
   rw [List.mem_drop_iff_getElem]
   exact ⟨k - place key es, by omega, by congr 1; omega⟩
set_option maxHeartbeats 400000 in
theorem zpb (es : List (Str × Str)) (key : Str) (A : Option Addr) (c : Nat) (w : World) (h : SlC w 68 (.slice A es.length c) es.length (pcells es)) (hr : zcs es) (hn : es.length <= 1000) :
   Calls Tryz.prog 121 #[.slice A es.length c, .string key, .func (.func 122) #[] #[]] w fun e w' =>
    e = .returned (.tuple #[.int .i64 (place key es : Nat), .bool (there key es)]) /\ Below w.heap.size w w' := by
 have hpl := zdo key es
 have hcmp : ∀ k (hk : k < es.length), decide (zd1 es[k].1 key < 0) = decide (k < place key es) := by
  intro k hk
  rw [<- zl3 key es hr k hk]
  unfold zd1
  cases h1 : slt es[k].1 key with
  | true => simp
  | false => cases h2 : slt key es[k].1 <;> simp
 have hth : ∀ k (hk : k < es.length), k = place key es -> (zd1 es[k].1 key == 0) = there key es := by
  intro k hk hkp
  have h0 : slt es[k].1 key = false := by rw [zl3 key es hr k hk]; simp; omega
  have hd : es.drop (place key es) = es[k] :: es.drop (k + 1) := by rw [<- hkp]; exact List.drop_eq_getElem_cons hk
  unfold there
  rw [hd]
  unfold zd1
  rw [h0]
  simp only [Bool.false_eq_true, if_false]
  rcases zhr.1 h0 with h1 | h1
  . rw [h1, zcu (fun e => zcv h1 e.symm)]; rfl
  . rw [<- h1, zbb, zc1]; rfl
 have hth0 : place key es = es.length -> there key es = false := by
  intro e
  unfold there
  rw [e, List.drop_length]
 have H := zaa h
 have HCMP := zaa hcmp
 have HTH := zaa hth
 have HTH0 := zaa hth0
 obtain ⟨p, hp⟩ : ∃ p, p = place key es := ⟨_, rfl⟩
 obtain ⟨n, hn'⟩ : ∃ n, n = es.length := ⟨_, rfl⟩
 rw [<- hn', <- hp] at hpl
 rw [<- hn'] at hn ⊢
 rw [<- hp]
 have HN := zaa hn'
 have HP := zaa hp
 clear h hcmp hth hth0 hn' hp
 go_enter Tryz.func121, Tryz.ntmps121
 go_wp2
 go_loopw [9, 10] (fun i j wr => ∃ a b : Nat, i = .int .i64 a /\ j = .int .i64 b /\ a <= p /\ p <= b /\ b <= n /\ Below w.heap.size w wr) (fun i j _ => (intOf j).toNat - (intOf i).toNat)
 case atStart => exact ⟨0, n, rfl, rfl, by omega, hpl, by omega, Below.refl _ _⟩
 case round =>
  obtain ⟨a, b, rfl, rfl, ha, hb', hbn, hb⟩ := hrel
  by_cases hlt : a < b
  . obtain ⟨m, hm⟩ : ∃ m, m = (a + b) / 2 := ⟨_, rfl⟩
    have hma : a <= m := by omega
    have hmb : m < b := by omega
    have hmn : m < n := by omega
    have hm' : ((a : Int) + (b : Int)) / 2 = (m : Int) := by omega
    clear hm
    have hk' : m < es.length := by have := HN.out; omega
    obtain ⟨g, o, u, v, hA, hu, hv, c1, c2, hg⟩ := (HN.out ▸ H.out).cells_at hb hmn
    have hc := zcz es m hk'
    rw [hc.1] at hu
    rw [hc.2] at hv
    injection hu with hu
    injection hv with hv
    subst hu
    subst hv
    subst hA
    clear hc
    have hd := HCMP.out m hk'
    rw [<- HP.out] at hd
    obtain ⟨x, hx⟩ : ∃ x, x = es[m].1 := ⟨_, rfl⟩
    rw [<- hx] at c1 hd
    have HX := zaa hx
    clear hx
    have hgr : g < wr.heap.size := Nat.lt_of_lt_of_le hg hb.size
    have hsz' : w.heap.size <= wr.heap.size := hb.size
    by_cases hmp : m < p
    . have hd' : decide (zd1 x key < 0) = true := by rw [hd]; simpa using hmp
      clear hd
      go_wp2_with (go_at_call 122; refine (zfk _ _ _ _).mono ?_; rintro e w1 ⟨rfl, hb1⟩)
      go_roundw
      case rel => exact ⟨m + 1, b, by go_num, rfl, by omega, hb', hbn, hb.trans (hb1.mono hsz')⟩
      case measure => simp [intOf]; omega
    . have hd' : decide (zd1 x key < 0) = false := by rw [hd]; simpa using hmp
      clear hd
      go_wp2_with (go_at_call 122; refine (zfk _ _ _ _).mono ?_; rintro e w1 ⟨rfl, hb1⟩)
      go_roundw
      case rel => exact ⟨a, m, rfl, rfl, ha, by omega, by omega, hb.trans (hb1.mono hsz')⟩
      case measure => simp [intOf]; omega
  . obtain rfl : a = p := by omega
    by_cases hpn : a < n
    . have hk' : a < es.length := by have := HN.out; omega
      obtain ⟨g, o, u, v, hA, hu, hv, c1, c2, hg⟩ := (HN.out ▸ H.out).cells_at hb hpn
      have hc := zcz es a hk'
      rw [hc.1] at hu
      rw [hc.2] at hv
      injection hu with hu
      injection hv with hv
      subst hu
      subst hv
      subst hA
      clear hc
      have hd := HTH.out a hk' HP.out
      obtain ⟨x, hx⟩ : ∃ x, x = es[a].1 := ⟨_, rfl⟩
      rw [<- hx] at c1 hd
      have HX := zaa hx
      have HD := zaa hd
      clear hx hd
      have hgr : g < wr.heap.size := Nat.lt_of_lt_of_le hg hb.size
      have hsz' : w.heap.size <= wr.heap.size := hb.size
      go_wp2_with (go_at_call 122; refine (zfk _ _ _ _).mono ?_; rintro e w1 ⟨rfl, hb1⟩)
      go_ret2
      exact ⟨by rw [<- HD.out]; rfl, hb.trans (hb1.mono hsz')⟩
    . have hd := HTH0.out (by have := HN.out; have := HP.out; omega)
      have HD := zaa hd
      clear hd
      go_wp2
      go_ret2
      exact ⟨by rw [HD.out]; rfl, hb⟩
theorem zft (t : Tr 0) (key : Str) (b : Nat) (ds : List Nat) (w : World) (h : Rep w 0 t b ds) (hr : zcs (Nd.es t)) (hn : (Nd.es t).length <= 1000) :
   Calls Tryz.prog 83 #[P b, .string key] w fun e w' => e = .returned (.tuple #[.int .i64 (place key (Nd.es t) : Nat), .bool (there key (Nd.es t))]) /\ Below w.heap.size w w' := by
 obtain ⟨A1, c1, A2, c2, hn', _⟩ := zin h
 have c3 : w.cell? ⟨b, 3, none⟩ = some (.slice A1 (Nd.es t).length c1) := by rw [Blk.cell hn'.node]; rfl
 have HS := zaa (zpb (Nd.es t) key A1 c1 w hn'.ps hr hn)
 clear h hn'
 go_enter Tryz.func83, Tryz.ntmps83
 go_wp2_with (go_at_call 121; refine HS.out.mono ?_; rintro e w1 ⟨rfl, hb1⟩)
 go_ret2
 exact ⟨rfl, hb1⟩
end Go.Proofs.YtemondlgcmpbbaaGreatDoor
