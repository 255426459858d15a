/- Zl Zr Zs Zt: merged. -/
import Derived.Test.YtemondlgcmpbbaaGreatDoorMV35
namespace Go.Proofs.YtemondlgcmpbbaaGreatDoor
open Go.RowKit
set_option maxRecDepth 100000
theorem ztx (T : Tree) : za5 T ByteArray.empty = T.pairs := by
 have h : ∀ l : List (Str × Str), place ByteArray.empty l = 0 := fun l => by
  unfold place
  cases l with
  | nil => rfl
  | cons a l => rw [List.takeWhile_cons_of_neg (by rw [za3]; simp)]; rfl
 unfold za5
 rw [h, List.drop_zero]
theorem zdk {l : List (Str × Str)} (hr : zct l) {n : Nat} (hn : n < l.length) : place l[n].1 l = n := by
 have h1 := zdb l[n].1 l
 have h2 := zjo l[n].1 l hr
 rcases Nat.lt_trichotomy (place l[n].1 l) n with h | h | h
 . have := h2 (place l[n].1 l) (by omega)
   have h3 : slt (l[place l[n].1 l]'(by omega)).1 l[n].1 = true := (List.pairwise_iff_getElem.1 hr) _ _ (by omega) hn h
   rw [h3] at this
   simp at this
 . exact h
 . have := h2 n hn
   rw [zbh] at this
   simp at this
   omega
section
variable {T : Tree}
theorem zvx : afterV false ⟨#[]⟩ (za5 T ⟨#[]⟩) = T.pairs[0]? := by
 rw [show (⟨#[]⟩ : Str) = ByteArray.empty from rfl, ztx]
 cases T.pairs with
 | nil => rfl
 | cons a l => rfl
theorem zxc : zcv T ⟨#[]⟩ true = T.pairs[T.pairs.length - 1]? := by
 unfold zcv
 rw [if_pos rfl, List.take_length, List.getLast?_eq_getElem?]
theorem zxd (k : Str) : afterV false k (za5 T k) = T.pairs[place k T.pairs]? := by
 unfold za5
 have h : ∀ l : List (Str × Str), afterV false k l = l[0]? := fun l => by cases l with
  | nil => rfl
  | cons a l => rfl
 rw [h, List.getElem?_drop, Nat.add_zero]
variable (hr : zct T.pairs)
include hr
theorem zxe {n : Nat} (hn : n < T.pairs.length) : afterV true T.pairs[n].1 (za5 T T.pairs[n].1) = T.pairs[n + 1]? := by
 unfold za5
 rw [zdk hr hn, List.drop_eq_getElem_cons hn]
 show (if (true && seq T.pairs[n].1 T.pairs[n].1) = true then _ else _) = _
 rw [zda]
 show afterV true T.pairs[n].1 (T.pairs.drop (n + 1)) = _
 by_cases h1 : n + 1 < T.pairs.length
 . rw [List.drop_eq_getElem_cons h1, List.getElem?_eq_getElem h1]
   have h2 : slt T.pairs[n].1 T.pairs[n + 1].1 = true := (List.pairwise_iff_getElem.1 hr) _ _ hn h1 (by omega)
   show (if (true && seq T.pairs[n + 1].1 T.pairs[n].1) = true then _ else _) = _
   rw [zc0 (fun e => zc1 h2 e.symm)]
   rfl
 . rw [List.drop_of_length_le (by omega), List.getElem?_eq_none (by omega)]
   rfl
theorem zxf {n : Nat} (hn : n < T.pairs.length) : zcv T T.pairs[n].1 false = if n = 0 then none else T.pairs[n - 1]? := by
 unfold zcv
 rw [if_neg (by simp), zdk hr hn, List.getLast?_eq_getElem?, List.length_take, Nat.min_eq_left (by omega), List.getElem?_take]
 split <;> split <;> first | rfl | omega
end
section
variable {T : Tree} (hw : TW T) {k key : Str}
include hw
theorem zgk {j : Nat} {e : Str × Str} (h : T.pairs[j]? = some e) : 1 <= e.1.size := by
 obtain ⟨hj, rfl⟩ := List.getElem?_eq_some_iff.1 h
 exact (hw.leaf.2 _ (List.getElem_mem hj)).2.2.1.1
theorem zr1 : zfh 0 k key T.pairs (afterV false ⟨#[]⟩ (za5 T ⟨#[]⟩)) := by
 rw [zvx]
 refine ⟨fun h => ⟨fun _ => ?_, fun h => by omega, fun h => by omega, fun h => by omega, fun h => by omega⟩, fun e h => ⟨zgk hw h, 0, h, fun _ => rfl, fun h => by omega, fun h => by omega, fun h => by omega, fun h => by omega⟩⟩
 have := List.getElem?_eq_none_iff.1 h
 omega
theorem zty : zfh 1 k key T.pairs (zcv T ⟨#[]⟩ true) := by
 rw [zxc]
 refine ⟨fun h => ⟨fun h => by omega, fun _ => ?_, fun h => by omega, fun h => by omega, fun h => by omega⟩, fun e h => ⟨zgk hw h, T.pairs.length - 1, h, fun h => by omega, fun _ => ?_, fun h => by omega, fun h => by omega, fun h => by omega⟩⟩
 . have := List.getElem?_eq_none_iff.1 h
   omega
 . obtain ⟨hj, _⟩ := List.getElem?_eq_some_iff.1 h
   omega
theorem ztz : zfh 2 k key T.pairs (afterV false k (za5 T k)) := by
 rw [zxd]
 refine ⟨fun h => ⟨fun h => by omega, fun h => by omega, fun _ => List.getElem?_eq_none_iff.1 h, fun h => by omega, fun h => by omega⟩, fun e h => ⟨zgk hw h, place k T.pairs, h, fun h => by omega, fun h => by omega, fun _ => rfl, fun h => by omega, fun h => by omega⟩⟩
theorem zt0 (hk : ∃ n, ∃ h : n < T.pairs.length, T.pairs[n].1 = key) : zfh 3 k key T.pairs (afterV true key (za5 T key)) := by
 obtain ⟨n, hn, rfl⟩ := hk
 have hr : zct T.pairs := hw.leaf.1
 rw [zxe hr hn]
 refine ⟨fun h => ⟨fun h => by omega, fun h => by omega, fun h => by omega, fun _ => ?_, fun h => by omega⟩, fun e h => ⟨zgk hw h, n + 1, h, fun h => by omega, fun h => by omega, fun h => by omega, fun _ => ?_, fun h => by omega⟩⟩
 . rw [zdk hr hn]
   exact List.getElem?_eq_none_iff.1 h
 . rw [zdk hr hn]
theorem zt1 (hk : ∃ n, ∃ h : n < T.pairs.length, T.pairs[n].1 = key) : zfh 4 k key T.pairs (zcv T key false) := by
 obtain ⟨n, hn, rfl⟩ := hk
 have hr : zct T.pairs := hw.leaf.1
 rw [zxf hr hn]
 by_cases h0 : n = 0
 . subst h0
   rw [if_pos rfl]
   exact ⟨fun _ => ⟨fun h => by omega, fun h => by omega, fun h => by omega, fun h => by omega, fun _ => zdk hr hn⟩, fun e h => (by cases h)⟩
 . rw [if_neg h0, List.getElem?_eq_getElem (by omega)]
   exact ⟨fun h => (by cases h), fun e h => ⟨zgk hw (j := n - 1) (by rw [List.getElem?_eq_getElem (by omega)]; exact h), n - 1, by rw [List.getElem?_eq_getElem (by omega)]; exact h, fun h => by omega, fun h => by omega, fun h => by omega, fun h => by omega, fun _ => by rw [zdk hr hn]; omega⟩⟩
theorem zr2 : (T.delete k).pairs = zep k T.pairs /\ (T.delete k).pairs.length <= T.pairs.length := by
 have hr : zct T.pairs := hw.leaf.1
 have h := (zh8 hw k).1
 rw [h, zvd hr]
 refine ⟨rfl, ?_⟩
 unfold zhf
 split
 . rename_i ht
   have := (zeb k T.pairs hr ht).1
   omega
 . exact Nat.le_refl _
theorem zxg {v : Str} (h1 : zb6 k) (h2 : zc2 v) : (T.put k v).pairs = zc8 k v T.pairs /\ (zc8 k v T.pairs).length = T.pairs.length + (if (T.get k).isSome then 0 else 1) := by
 have hr : zct T.pairs := hw.leaf.1
 rw [(zh7 hw h1 h2).1, zvc hr]
 refine ⟨rfl, ?_⟩
 rw [(zga k v T.pairs hr).1, zdf, hw.get]
end
theorem zvy {T : Tree} {k key : Str} {res : Option (Str × Str)} {how : Int} (h : zfh how k key T.pairs res) (hs : res.isSome = true) : ∃ n, ∃ h : n < T.pairs.length, T.pairs[n].1 = rK res := by
 obtain ⟨e, rfl⟩ := Option.isSome_iff_exists.1 hs
 obtain ⟨_, j, hj, _⟩ := h.some e rfl
 obtain ⟨hj1, hj2⟩ := List.getElem?_eq_some_iff.1 hj
 exact ⟨j, hj1, by rw [hj2]; rfl⟩
theorem zxh {n : Nat} {keys : Nat} (h : (keys : Int) < zd3 n) (hn : n <= 400) : keys + 1 <= 130 := by
 unfold zd3 at h
 by_cases h1 : 12 <= n
 . rw [Int.tdiv_eq_ediv_of_nonneg (by omega)] at h
   omega
 . have h2 : ∀ n : Nat, n < 12 -> ((n : Int) - 12).tdiv 3 <= 0 := by decide
   have := h2 n (by omega)
   omega
theorem zxi {n : Nat} {keys : Nat} (h : zd3 n <= (keys : Int)) : n < 3 * (keys + 1) + 12 := by
 unfold zd3 at h
 by_cases h1 : 12 <= n
 . rw [Int.tdiv_eq_ediv_of_nonneg (by omega)] at h
   omega
 . omega
theorem StI.mid {σ : StI} {a b : List TxI} {τ : TxI} (hts : σ.ts = a ++ τ :: b) : σ.own = (σ.x :: σ.rd :: (σ.tsv.ownBlock.toList ++ a.flatMap TxI.own)) ++ τ.own ++ b.flatMap TxI.own := by
 unfold StI.own
 rw [hts, List.flatMap_append, List.flatMap_cons]
 simp
theorem zit {a b : List TxI} {τ τ' : TxI} (h1 : τ'.wr = τ.wr) (h2 : τ'.done = τ.done) (h3 : τ'.t = τ.t) : wrL (a ++ τ' :: b) = wrL (a ++ τ :: b) := by
 unfold wrL
 rw [List.filter_append, List.filter_append, List.filter_cons, List.filter_cons, h1, h2]
 split <;> simp [h3]
theorem zf5 {a b : List TxI} {τ τ' : TxI} (h1 : τ'.wr = τ.wr) (h2 : τ'.done = τ.done) (h3 : τ'.t = τ.t) : rdL (a ++ τ' :: b) = rdL (a ++ τ :: b) := by
 unfold rdL
 rw [List.filter_append, List.filter_append, List.filter_cons, List.filter_cons, h1, h2]
 split <;> simp [h3]
theorem zlh {a b : List TxI} {τ τ' : TxI} (h1 : τ'.wr = τ.wr) (h2 : τ'.done = τ.done) (h3 : τ'.t = τ.t) : wrV (a ++ τ' :: b) = wrV (a ++ τ :: b) := by
 unfold wrV
 rw [zit h1 h2 h3]
section
variable {w w' : World} {B N : Nat} {d : DiI} {s : LdS} {m : Nums} {bytes : List UInt8} {kM kW : Nat} {σ : StI} {τ τ' : TxI} {a b : List TxI}
theorem DiOk.txn (H : DiOk w B N d s m bytes kM kW) (hn : d.own.Nodup) (hst : d.st = some σ) (hts : σ.ts = a ++ τ :: b) {fp : Nat -> Prop} (ho : Only fp w w') (hf : ∀ y, fp y -> y = σ.x \/ y = σ.rd \/ y ∈ τ.own) (hτ' : TxOk w' σ.x B (N + 1) τ') (hl : τ'.l = τ.l)
   (hdb : DbAt w' σ.x ⟨σ.dk, .pointer none, 0, wrV (a ++ τ' :: b), σ.rd, false⟩) (hrd : RdAt w' σ.rd (rdL (a ++ τ' :: b))) (h1 : (wrL (a ++ τ' :: b)).length <= 1) (h4 : (rdL (a ++ τ' :: b)).length <= 4) (hs : ∀ y ∈ τ'.own, y ∈ τ.own \/ w.heap.size <= y) (hn' : τ'.own.Nodup) {e : Ending} (he : e = .returned (.bool true)) : TurnPost B N d w e w' := by
 obtain ⟨q1, q2, q3, q4, hσ⟩ := H.sok hst
 have hown := DiI.own_some hst
 have hlt : ∀ y ∈ d.own, y < w.heap.size := fun y hy => (H.own y hy).lt
 have hn0 := hn
 rw [hown] at hn
 obtain ⟨n1, n2, n3⟩ := List.nodup_append.1 hn
 have hmid := StI.mid hts
 have hlow : ∀ y ∈ σ.own, y < w.heap.size := fun y hy => (hσ.own y hy).lt
 have hfo : ∀ y, fp y -> y ∈ σ.own := fun y hy => by
  rw [hmid]
  rcases hf y hy with e | e | e
  . rw [e]; simp
  . rw [e]; simp
  . simp [e]
 have hp : ¬ fp d.p := fun e => n3 d.p (by simp [DiI.base]) d.p (hfo _ e) rfl
 have hkf : KF fp w := KF.of fun y hy => hσ.own y (hfo y hy)
 have n2' := n2
 rw [hmid] at n2'
 obtain ⟨m1, m2, m3⟩ := List.nodup_append.1 n2'
 obtain ⟨m4, m5, m6⟩ := List.nodup_append.1 m1
 have m4' := m4
 simp only [List.nodup_cons, List.mem_cons, List.mem_append, not_or] at m4'
 obtain ⟨⟨_, x1, x2⟩, ⟨r1, r2⟩, t1⟩ := m4'
 have hnf : ∀ y, (y ∈ σ.tsv.ownBlock.toList \/ y ∈ a.flatMap TxI.own) -> ¬ fp y := fun y hy e => by
  rcases hf y e with k | k | k
  . subst k; rcases hy with k | k; exact x1 k; exact x2 k
  . subst k; rcases hy with k | k; exact r1 k; exact r2 k
  . exact m6 y (by simp only [List.mem_cons, List.mem_append]; exact .inr (.inr hy)) y k rfl
 have hnb : ∀ y, y ∈ b.flatMap TxI.own -> ¬ fp y := fun y hy e => by
  rcases hf y e with k | k | k
  . exact m3 y (by rw [k]; simp) y hy rfl
  . exact m3 y (by rw [k]; simp) y hy rfl
  . exact m3 y (by simp [k]) y hy rfl
 have hS : StOk w' B (N + 1) d.db s.n { σ with ts := a ++ τ' :: b } := by
  obtain ⟨hd, hdk⟩ := hσ.dk
  refine ⟨hdb, hrd, ⟨hd, hdk.only ho (hkf _ _ _ hdk (by decide))⟩, ?_, ?_, h1, h4, ?_, hσ.fit⟩
  . have := zcm hσ.row ho fun g hg => hnf g (.inl (by rw [hg]; simp))
    rw [hts] at this
    simp only [List.length_append, List.length_cons, List.map_append, List.map_cons] at this ⊢
    rw [hl]
    exact this
  . intro e he
    rcases List.mem_append.1 he with k | k
    . exact ((hσ.each e (by rw [hts]; simp [k])).only ho hkf fun y hy => hnf y (.inr (List.mem_flatMap.2 ⟨e, k, hy⟩))).more
    . rcases List.mem_cons.1 k with rfl | k
      . exact hτ'
      . exact ((hσ.each e (by rw [hts]; simp [k])).only ho hkf fun y hy => hnb y (List.mem_flatMap.2 ⟨e, k, hy⟩)).more
  . have := hσ.len
    rw [hts] at this
    simp only [List.length_append, List.length_cons] at this ⊢
    omega
 have hmid' : ({ σ with ts := a ++ τ' :: b } : StI).own = (σ.x :: σ.rd :: (σ.tsv.ownBlock.toList ++ a.flatMap TxI.own)) ++ τ'.own ++ b.flatMap TxI.own := StI.mid (σ := { σ with ts := a ++ τ' :: b }) rfl
 have hld : LdAt w' d.p { s with ts := ({ σ with ts := a ++ τ' :: b } : StI).tsv } := by
  have e : ({ s with ts := ({ σ with ts := a ++ τ' :: b } : StI).tsv } : LdS) = s := by
   show ({ s with ts := σ.tsv } : LdS) = s
   rw [<- q4]
  rw [e]
  exact Blk.only H.dk.at_ ho hp
 refine ⟨he, { d with st := some { σ with ts := a ++ τ' :: b } }, H.store hn0 hst ho (fun y hy => .inr (hfo y hy)) hld rfl hS, Turned.store hn0 hlt hst ho (fun y hy => .inr (hfo y hy)) ?_ ?_⟩
 . intro y hy
   rw [hmid'] at hy
   rw [hmid]
   simp only [List.mem_append] at hy ⊢
   rcases hy with (k | k) | k
   . exact .inl (.inl (.inl k))
   . exact (hs y k).imp (fun k => .inl (.inr k)) id
   . exact .inl (.inr k)
 . rw [hmid']
   refine zff (F := τ.own) (z := w.heap.size) n2' ?_ hn' hs
   intro y hy
   rw [<- hmid] at hy
   exact hlow y hy
theorem DiOk.around (H : DiOk w B N d s m bytes kM kW) (hn : d.own.Nodup) (hst : d.st = some σ) (hts : σ.ts = a ++ τ :: b) : TxOk w σ.x B N τ /\ τ.own.Nodup /\ ¬ σ.x ∈ τ.own /\ ¬ σ.rd ∈ τ.own /\ (∀ y ∈ a.flatMap TxI.own ++ b.flatMap TxI.own, ¬ y ∈ τ.own) := by
 obtain ⟨q1, q2, q3, q4, hσ⟩ := H.sok hst
 rw [DiI.own_some hst] at hn
 obtain ⟨n1, n2, n3⟩ := List.nodup_append.1 hn
 rw [StI.mid hts] at n2
 obtain ⟨m1, m2, m3⟩ := List.nodup_append.1 n2
 obtain ⟨m4, m5, m6⟩ := List.nodup_append.1 m1
 refine ⟨hσ.each τ (by rw [hts]; simp), m5, fun e => m6 σ.x (by simp) σ.x e rfl, fun e => m6 σ.rd (by simp) σ.rd e rfl, fun y hy hy' => ?_⟩
 rcases List.mem_append.1 hy with k | k
 . exact m6 y (by simp only [List.mem_cons, List.mem_append]; exact .inr (.inr (.inr k))) y hy' rfl
 . exact m3 y (by simp [hy']) y k rfl
theorem DiOk.at_x (H : DiOk w B N d s m bytes kM kW) (hn : d.own.Nodup) (hst : d.st = some σ) (hts : σ.ts = a ++ τ :: b) (ho : Only (· = σ.x) w w') (hdb : DbAt w' σ.x ⟨σ.dk, .pointer none, 0, wrV σ.ts, σ.rd, false⟩) {e : Ending} (he : e = .returned (.bool true)) : TurnPost B N d w e w' := by
 obtain ⟨q1, q2, q3, q4, hσ⟩ := H.sok hst
 obtain ⟨hτ, t1, t2, t3, _⟩ := H.around hn hst hts
 have hkf : KF (· = σ.x) w := KF.of fun y hy => by rw [show y = σ.x from hy]; exact OwnB.blk hσ.db (by decide)
 refine H.txn hn hst hts ho (fun y hy => .inl hy) (hτ.only ho hkf fun y hy e => t2 (by rw [<- show y = σ.x from e]; exact hy)).more rfl (by rw [<- hts]; exact hdb) (by rw [<- hts]; exact hσ.rd.only ho (hσ.rd.ne_blk hσ.db)) (by rw [<- hts]; exact hσ.one) (by rw [<- hts]; exact hσ.four) (fun y hy => .inl hy) t1 he
end
section
variable {w : World} {B N : Nat} {d : DiI} {σ : StI} {τ : TxI} {a b : List TxI}
theorem zyb (k : Str) (h : DiIs w B N d) (hn : d.own.Nodup) (hpos : ∀ y ∈ d.own, 0 < y) (hst : d.st = some σ) (hts : σ.ts = a ++ τ :: b) (hg : Glob w) (hk : k.size <= 9223372036854775807) :
   Calls Tryz.prog 185 #[pkv d.p, pkv τ.l, .string k] w (TurnPost B N d w) := by
 obtain ⟨s, m, bytes, kM, kW, H⟩ := h
 obtain ⟨q1, q2, q3, q4, hσ⟩ := H.sok hst
 obtain ⟨hτ, t1, t2, t3, _⟩ := H.around hn hst hts
 have hdev : DkAt w s.db (.slice (some ⟨d.g, 0, none⟩) s.n (zcs bytes)) (.slice none 0 0) m := by rw [H.dk.db]; exact H.dk.dk.at_
 have hx0 : σ.x ≠ 0 := by have := hpos σ.x (by rw [DiI.own_some hst]; simp [StI.own]); omega
 refine (zw8 k H.dk.at_ H.poi hdev hτ hσ.db rfl hg hx0 hk).mono ?_
 rintro e w' ⟨he, hdb, ho⟩
 exact H.at_x hn hst hts ho hdb he
theorem zqf {wr done : Bool} {k v : Str} (hv : v.size <= 12) : chgN wr done k v = zbo false done true wr k := by
 unfold chgN zbo
 have h : ¬ 12 < v.size := by omega
 rw [if_neg h]
 cases done <;> cases wr <;> simp
theorem zyc {wr done : Bool} {k v : Str} (h : zbo false done true wr k ≠ 0) : chgN wr done k v = zbo false done true wr k := by
 by_cases hb : k.size < 1 \/ 8 < k.size
 . unfold chgN zbo
   rw [if_pos hb, if_pos hb]
   cases done <;> cases wr <;> simp
 . unfold chgN zbo at *
   rw [if_neg hb] at h ⊢
   rw [if_neg hb]
   cases done <;> cases wr <;> simp at h ⊢
theorem TreeV.up_all {w' : World} {T : Tree} {rp : Value} {ds : List Nat} {z : Nat} (h : TreeV (up (fun y => y < z) z) w' T rp ds) : TreeV (fun y => y < w'.heap.size) w' T rp ds :=
 h.imp id fun ⟨a, n, b, e1, e2, e3⟩ => ⟨a, n, b, e1, e2, e3.lt.more fun _ hz => hz.2⟩
theorem zma (del : Bool) (k v : Str) (h : DiIs w B N d) (hn : d.own.Nodup) (hpos : ∀ y ∈ d.own, 0 < y) (hst : d.st = some σ) (hts : σ.ts = a ++ τ :: b) (hg : Glob w) (hN : N <= 16384) (hk : k.size <= 9223372036854775807) (hv : v.size <= 9223372036854775807) :
   Calls Tryz.prog 184 #[pkv d.p, pkv τ.l, .string k, .string v, .bool del] w (TurnPost B N d w) := by
 obtain ⟨s, m, bytes, kM, kW, H⟩ := h
 obtain ⟨q1, q2, q3, q4, hσ⟩ := H.sok hst
 obtain ⟨hτ, t1, t2, t3, t4⟩ := H.around hn hst hts
 have hdev : DkAt w s.db (.slice (some ⟨d.g, 0, none⟩) s.n (zcs bytes)) (.slice none 0 0) m := by rw [H.dk.db]; exact H.dk.dk.at_
 have hdev' : DkAt w d.db (.slice (some ⟨d.g, 0, none⟩) s.n (zcs bytes)) (.slice none 0 0) m := H.dk.dk.at_
 have hx0 : σ.x ≠ 0 := by have := hpos σ.x (by rw [DiI.own_some hst]; simp [StI.own]); omega
 have hlen := hτ.len
 have hmost := hτ.most
 have hfew := hτ.few
 have hstm := hτ.st
 have hfit := hσ.fit
 obtain ⟨hd, hdk⟩ := hσ.dk
 have hst0 : 0 <= τ.st /\ τ.st <= 1000000000 := by omega
 have hno : ∀ (op : Str) (c : Nat), (c ≠ 0) -> chgN τ.wr τ.done k (if del = true then ⟨#[]⟩ else v) = c ->
    (del = true -> Calls Tryz.prog 23 #[pkv τ.t, .string k] w (zkx w σ.x ⟨σ.dk, .pointer none, 0, wrV σ.ts, σ.rd, false⟩ opDelete c)) -> (del = false -> Calls Tryz.prog 24 #[pkv τ.t, .string k, .string v] w (zkx w σ.x ⟨σ.dk, .pointer none, 0, wrV σ.ts, σ.rd, false⟩ opPut c)) ->
    Calls Tryz.prog 184 #[pkv d.p, pkv τ.l, .string k, .string v, .bool del] w (TurnPost B N d w) := fun op c hc0 hc h1 h2 => by
  refine (zrw del k v c H.dk.at_ H.poi hdev hτ hσ.db hg hx0 hk hv hc hc0 h1 h2).mono ?_
  rintro e w' ⟨he, hdb, ho⟩
  exact H.at_x hn hst hts ho hdb he
 have hyes : ∀ (T' : Tree), TR T' -> τ.wr = true -> τ.done = false -> ∀ e w', (e = .returned (.bool true) /\ zky w w' σ.x ⟨σ.dk, .pointer none, 0, wrV σ.ts, σ.rd, false⟩ τ T') -> TurnPost B N d w e w' := by
  intro T' hTR hwr hdo e w' ⟨he, rp', dn', lv', most', hL, hT, hV, hnd, hR, hdb, hm1, hm2, ho⟩
  have hcs : ∀ c ∈ τ.cs, CuOk w' τ.t T' (τ.st + 1) c := fun c hc => by
   have hcu := hτ.cur c hc
   have hq : c.q ∈ τ.own := by simp only [TxI.own, List.mem_cons, List.mem_append, List.mem_flatMap]; exact .inr (.inr (.inr ⟨c, hc, by simp [CuI.own]⟩))
   have hcc : c.c ∈ τ.own := by simp only [TxI.own, List.mem_cons, List.mem_append, List.mem_flatMap]; exact .inr (.inr (.inr ⟨c, hc, by simp [CuI.own]⟩))
   have hx := hcu.le
   refine ⟨hcu.law.only ho (fun e => ?_), Blk.only hcu.at_ ho (fun e => ?_), ⟨hx.1, by omega⟩, fun _ e => by omega⟩
   . rcases e with e | e | e
     . exact Blk.ne_ hcu.law hτ.law (by decide) e
     . exact Blk.ne_ hcu.law hτ.tx (by decide) e
     . exact Blk.ne_ hcu.law hσ.db (by decide) e
   . rcases e with e | e | e
     . exact Blk.ne_ hcu.at_ hτ.law (by decide) e
     . exact Blk.ne_ hcu.at_ hτ.tx (by decide) e
     . exact Blk.ne_ hcu.at_ hσ.db (by decide) e
  have hcrow := zam hτ.crow ho (fun z cs hz e => by
   rcases e with e | e | e
   . subst e; exact Blk.ne_ hz hτ.law (by decide) rfl
   . subst e; exact Blk.ne_ hz hτ.tx (by decide) rfl
   . subst e; exact Blk.ne_ hz hσ.db (by decide) rfl)
  refine H.txn (τ' := { τ with st := τ.st + 1, most := most', T := T', rp := rp', dn := dn', lv := lv' }) hn hst hts ho (fun y hy => ?_) ?_ rfl ?_ ?_ ?_ ?_ (fun y hy => .inl hy) t1 he
  . rcases hy with e | e | e
    . exact .inr (.inr (by rw [e]; simp [TxI.own]))
    . exact .inr (.inr (by rw [e]; simp [TxI.own]))
    . exact .inl e
  . exact ⟨hL, by show TxAt w' τ.t ⟨σ.x, rp', T'.keys, τ.wr, τ.done, τ.st + 1⟩; rw [hwr, hdo]; exact hT, hV, hnd, hTR, hR, hm1, hm2, ⟨by show (0 : Int) <= τ.st + 1; omega, by show τ.st + 1 <= ((N + 1 : Nat) : Int); omega⟩, hcrow, hcs, by have := hτ.cn; show τ.cs.length <= N + 1; omega⟩
  . rw [zlh (τ := τ) (τ' := { τ with st := τ.st + 1, most := most', T := T', rp := rp', dn := dn', lv := lv' }) rfl rfl rfl, <- hts]; exact hdb
  . rw [zf5 (τ := τ) (τ' := { τ with st := τ.st + 1, most := most', T := T', rp := rp', dn := dn', lv := lv' }) rfl rfl rfl, <- hts]
    refine hσ.rd.only ho fun e => ?_
    rcases e with e | e | e
    . exact hσ.rd.ne_blk hτ.law e
    . exact hσ.rd.ne_blk hτ.tx e
    . exact hσ.rd.ne_blk hσ.db e
  . rw [zit (τ := τ) (τ' := { τ with st := τ.st + 1, most := most', T := T', rp := rp', dn := dn', lv := lv' }) rfl rfl rfl, <- hts]; exact hσ.one
  . rw [zf5 (τ := τ) (τ' := { τ with st := τ.st + 1, most := most', T := T', rp := rp', dn := dn', lv := lv' }) rfl rfl rfl, <- hts]; exact hσ.four
 cases del with
 | true =>
   have hD := zpb τ.t σ.x τ.rp τ.T τ.dn τ.wr τ.done τ.st ⟨σ.dk, .pointer none, 0, wrV σ.ts, σ.rd, false⟩ k w hτ.tx hσ.db hτ.tree hτ.nd hτ.tr (by omega) (by omega) hst0.1 hst0.2
   have hc := zqf (wr := τ.wr) (done := τ.done) (k := k) (v := ⟨#[]⟩) (by decide)
   by_cases h0 : zbo false τ.done true τ.wr k = 0
   . have hwd : τ.wr = true /\ τ.done = false := by
       unfold zbo at h0
       cases hw : τ.wr <;> cases hd' : τ.done <;> simp [hw, hd'] at h0 ⊢
     rw [hwd.1, hwd.2] at hc h0 hD
     obtain ⟨lp, ll⟩ := zr2 hτ.tr.tw (k := k)
     refine (zpj (N := N) (B := B) (S := ⟨σ.dk, .pointer none, 0, wrV σ.ts, σ.rd, false⟩) k v (τ.T.delete k) H.dk.at_ H.poi hdev hτ hσ.db hN hwd.1 hwd.2 hk hv (hc.trans h0) lp (by omega) ?_).mono (hyes _ (hτ.tr.delete k) hwd.1 hwd.2)
     refine hD.mono ?_
     rintro e w1 ⟨v1, rfl, ha, hdb, _, hch, ho⟩
     obtain ⟨rp', ds', hT', hV', hnd', _⟩ := hch h0
     rw [ha.nil h0]
     exact ⟨rfl, hdb, ⟨rp', ds', hT', hV'.up_all, hnd'⟩, ho⟩
   . refine hno opDelete (zbo false τ.done true τ.wr k) h0 hc (fun _ => ?_) (fun h => by cases h)
     refine hD.mono ?_
     rintro e w1 ⟨v1, rfl, ha, hdb, hx, _, _⟩
     obtain ⟨f, rfl, hf⟩ := ha.fault h0
     exact ⟨f, rfl, hf, hdb, (hx h0).2⟩
 | false =>
   have hbel : ∀ {c : Nat} {e : Ending} {w1 : World}, (∃ f, e = .returned (zad f) /\ zaj w1 f opPut c /\ Below w.heap.size w w1) -> zkx w σ.x ⟨σ.dk, .pointer none, 0, wrV σ.ts, σ.rd, false⟩ opPut c e w1 := fun ⟨f, he, hf, hb⟩ => ⟨f, he, hf, Blk.below hσ.db hb (Blk.lt hσ.db), Only.of_below hb⟩
   by_cases h0 : zbo false τ.done true τ.wr k = 0
   . have hwd : τ.wr = true /\ τ.done = false := by
       unfold zbo at h0
       cases hw : τ.wr <;> cases hd' : τ.done <;> simp [hw, hd'] at h0 ⊢
     have hok : zb6 k := by
      unfold zbo at h0
      rw [hwd.1, hwd.2, if_neg (by simp), if_neg (by simp), if_neg (by simp)] at h0
      unfold zb6
      by_cases hb : k.size < 1 \/ 8 < k.size
      . rw [if_pos hb] at h0
        cases h0
      . omega
     by_cases hv12 : v.size <= 12
     . have hc := zqf (wr := τ.wr) (done := τ.done) (k := k) (v := v) hv12
       obtain ⟨pp, pl⟩ := zxg hτ.tr.tw (v := v) hok hv12
       have hkeys := hτ.tr.tw.keys_
       have h0' := h0
       rw [hwd.1, hwd.2] at hc h0
       by_cases hroom : (τ.T.get k).isSome = true \/ (τ.T.keys : Int) < zd3 s.n
       . have hl140 : (τ.T.put k v).pairs.length <= 140 := by
           rw [pp, pl]
           rcases hroom with hr | hr
           . rw [if_pos hr]; omega
           . have := zxh hr hfit
             split <;> omega
         refine (zpi (N := N) (B := B) (S := ⟨σ.dk, .pointer none, 0, wrV σ.ts, σ.rd, false⟩) k v (τ.T.put k v) H.dk.at_ H.poi hdev hτ hσ.db hN hwd.1 hwd.2 hk hv (hc.trans h0) pp hl140 ?_).mono (hyes _ (hτ.tr.put hok hv12) hwd.1 hwd.2)
         refine (zwy τ.t σ.x τ.rp τ.T τ.dn τ.wr τ.done τ.st ⟨σ.dk, .pointer none, 0, wrV σ.ts, σ.rd, false⟩ k v w hτ.tx hσ.db hτ.tree hτ.nd hτ.tr (by omega) hok hv12 hst0.1 hst0.2 h0' d.db s.n (zcs bytes) hd (some ⟨d.g, 0, none⟩) (.slice none 0 0) m hdk hdev' (by omega) hroom).mono ?_
         rintro e w1 ⟨rfl, hdb, hch, ho⟩
         obtain ⟨rp', ds', hT', hV', hnd', _⟩ := hch
         rw [hwd.1, hwd.2] at hT'
         exact ⟨rfl, hdb, ⟨rp', ds', hT', hV'.up_all, hnd'⟩, ho⟩
       . have hget : τ.T.get k = none := by
           cases hgg : τ.T.get k with
           | none => rfl
           | some u => exact absurd (.inl (by rw [hgg]; rfl)) hroom
         have hrm : zd3 s.n <= (τ.T.keys : Int) := by
          by_cases hk : (τ.T.keys : Int) < zd3 s.n
          . exact absurd (.inr hk) hroom
          . exact Int.not_lt.1 hk
         have hrg := zxi hrm
         have hpl : (zc8 k v τ.T.pairs).length = τ.T.pairs.length + 1 := by rw [pl, hget]; rfl
         have hkf : KF (fun _ => False) w := fun _ _ _ _ _ => id
         obtain ⟨hrow, heach⟩ := hσ.parts (fp := fun _ => False) (Only.of_below (Below.refl _ _)) hkf (fun _ _ => id)
         refine (zmp (x := σ.x) (B := B) (N := N) (ts := σ.ts) k v H.dk.at_ H.poi q3 q2 hdev hτ (by rw [q4]; exact RowL.of hrow heach) (by have := hσ.len; omega) hwd.1 hwd.2 hg hk hv (hc.trans h0) (by omega) (by rw [hpl]; omega) (by rw [hpl]; omega) ?_).mono (fun e w' he => TurnPost.same ⟨s, m, bytes, kM, kW, H⟩ hn he.2 he.1)
         exact zrl τ.t σ.x τ.rp τ.T τ.dn τ.wr τ.done τ.st ⟨σ.dk, .pointer none, 0, wrV σ.ts, σ.rd, false⟩ k v w hτ.tx hσ.db hτ.tree hτ.tr (by omega) hok hv12 h0' d.db s.n (zcs bytes) hd (some ⟨d.g, 0, none⟩) (.slice none 0 0) m hdk hdev' (by omega) hget hrm
     . refine hno opPut 2 (by decide) ?_ (fun h => by cases h) (fun _ => ?_)
       . show chgN τ.wr τ.done k v = 2
         unfold chgN
         unfold zb6 at hok
         rw [hwd.1, hwd.2, if_neg (show ¬ false = true by simp), if_neg (show ¬ (!true) = true by simp), if_neg (show ¬ (k.size < 1 \/ 8 < k.size) by omega), if_pos (show 12 < v.size by omega)]
       . exact (zvh τ.t σ.x (τ.tx σ.x) ⟨σ.dk, .pointer none, 0, wrV σ.ts, σ.rd, false⟩ k v w hτ.tx hσ.db rfl (by omega) h0 (by omega)).mono fun e w1 he => hbel he
   . refine hno opPut (zbo false τ.done true τ.wr k) h0 ?_ (fun h => by cases h) (fun _ => ?_)
     . exact zyc h0
     . exact (zw4 τ.t σ.x (zbo false τ.done true τ.wr k) (τ.tx σ.x) ⟨σ.dk, .pointer none, 0, wrV σ.ts, σ.rd, false⟩ k v w hτ.tx hσ.db rfl (by omega) rfl h0).mono fun e w1 he => hbel he
end
section
variable {w w' : World} {x B N : Nat} {τ : TxI}
theorem TxI.own_parts (h : τ.own.Nodup) : (τ.csv.ownBlock.toList ++ τ.cs.flatMap CuI.own).Nodup /\ (∀ y ∈ τ.csv.ownBlock.toList ++ τ.cs.flatMap CuI.own, y ≠ τ.l /\ y ≠ τ.t) := by
 unfold TxI.own at h
 simp only [List.nodup_cons, List.mem_cons, not_or] at h
 exact ⟨h.2.2, fun y hy => ⟨fun e => h.1.2 (e ▸ hy), fun e => h.2.1 (e ▸ hy)⟩⟩
theorem TxOk.upd {dd : Bool} {fp : Nat -> Prop} (h : TxOk w x B N τ) (ho : Only fp w w') (hk : KF fp w) (hf : ∀ y ∈ τ.csv.ownBlock.toList ++ τ.cs.flatMap CuI.own, ¬ fp y) (hL : zeq w' { τ with done := dd }) (hT : TxAt w' τ.t ⟨x, τ.rp, τ.T.keys, τ.wr, dd, τ.st⟩) : TxOk w' x B (N + 1) { τ with done := dd } :=
 ⟨hL, hT, h.tree.size ho hk, h.nd, h.tr, h.row.only ho (fun z cs hz => hk z _ cs hz (by decide)), h.few, h.most, ⟨h.st.1, by have := h.st; show τ.st <= ((N + 1 : Nat) : Int); omega⟩, zcm h.crow ho (fun g hg => hf g (by simp [hg])), fun c hc => (h.cur c hc).only ho fun y hy => hf y (by rw [List.mem_append]; exact .inr (List.mem_flatMap.2 ⟨c, hc, hy⟩)), by have := h.cn; show τ.cs.length <= N + 1; omega⟩
end
section
variable {w : World} {B N : Nat} {d : DiI} {σ : StI} {τ : TxI} {a b : List TxI}
theorem zvz (h : DiIs w B N d) (hn : d.own.Nodup) (hst : d.st = some σ) (hts : σ.ts = a ++ τ :: b) (hg : Glob w) :
   Calls Tryz.prog 187 #[pkv d.p, pkv τ.l, .bool false] w (TurnPost B N d w) := by
 obtain ⟨s, m, bytes, kM, kW, H⟩ := h
 obtain ⟨q1, q2, q3, q4, hσ⟩ := H.sok hst
 obtain ⟨hτ, t1, t2, t3, t4⟩ := H.around hn hst hts
 have hdev : DkAt w s.db (.slice (some ⟨d.g, 0, none⟩) s.n (zcs bytes)) (.slice none 0 0) m := by rw [H.dk.db]; exact H.dk.dk.at_
 cases hdo : τ.done with
 | true =>
   refine (zvt H.dk.at_ H.poi hdev hτ.law hdo hg ?_).mono (fun e w' he => TurnPost.same ⟨s, m, bytes, kM, kW, H⟩ hn he.2 he.1)
   refine zvr τ.t σ.x 5 (τ.tx σ.x) ⟨σ.dk, .pointer none, 0, wrV σ.ts, σ.rd, false⟩ w hτ.tx hσ.db rfl ?_ (by decide)
   show mayC false τ.done false τ.wr = 5
   rw [hdo]; rfl
 | false =>
   have htn : ∀ e, e ∈ a \/ e ∈ b -> e.t ≠ τ.t := fun e he k => by
    refine t4 e.t ?_ (by rw [k]; simp [TxI.own])
    rw [List.mem_append]
    rcases he with he | he
    . exact .inl (List.mem_flatMap.2 ⟨e, he, by simp [TxI.own]⟩)
    . exact .inr (List.mem_flatMap.2 ⟨e, he, by simp [TxI.own]⟩)
   have hra : ∀ l : List TxI, (∀ e ∈ l, e.t ≠ τ.t) -> ¬ τ.t ∈ rdL l := fun l hl k => by
    unfold rdL at k
    obtain ⟨e, he, h2⟩ := List.mem_map.1 k
    exact hl e (List.mem_filter.1 he).1 h2
   have ha : ¬ τ.t ∈ rdL a := hra a fun e he => htn e (.inl he)
   have hb : ¬ τ.t ∈ rdL b := hra b fun e he => htn e (.inr he)
   have e0 : ∀ τ2 : TxI, σ.ts = a ++ τ :: b -> wrL (a ++ τ2 :: b) = wrL a ++ (wrL [τ2] ++ wrL b) /\ rdL (a ++ τ2 :: b) = rdL a ++ (rdL [τ2] ++ rdL b) := fun τ2 _ => by
    rw [show a ++ τ2 :: b = a ++ ([τ2] ++ b) by simp, ziq, ziq, zir, zir]
    exact ⟨rfl, rfl⟩
   have w1 : wrL [{ τ with done := true }] = [] := by simp [wrL]
   have r1 : rdL [{ τ with done := true }] = [] := by simp [rdL]
   have w0 : wrL [τ] = if τ.wr = true then [τ.t] else [] := by cases hw : τ.wr <;> simp [wrL, hw, hdo]
   have r0 : rdL [τ] = if τ.wr = true then [] else [τ.t] := by cases hw : τ.wr <;> simp [rdL, hw, hdo]
   have hone := hσ.one
   have hfour := hσ.four
   obtain ⟨ew, er⟩ := e0 τ hts
   obtain ⟨ew', er'⟩ := e0 { τ with done := true } hts
   rw [hts, ew, w0] at hone
   rw [hts, er, r0] at hfour
   have hwv : wrV (a ++ { τ with done := true } :: b) = if τ.wr = true then .pointer none else wrV σ.ts := by
    unfold wrV
    rw [ew', w1, hts, ew, w0]
    cases hw : τ.wr with
    | true =>
      rw [hw] at hone
      simp only [if_true, List.length_append, List.length_cons, List.length_nil] at hone
      have h1 : wrL a = [] := List.length_eq_zero_iff.1 (by omega)
      have h2 : wrL b = [] := List.length_eq_zero_iff.1 (by omega)
      rw [h1, h2]; rfl
    | false => simp
   have hrv : rdL (a ++ { τ with done := true } :: b) = (rdL σ.ts).erase τ.t := by
    rw [er', r1, hts, er, r0]
    cases hw : τ.wr with
    | true =>
      simp only [if_true, List.nil_append]
      rw [List.erase_of_not_mem (by rw [List.mem_append]; rintro (k | k); exact ha k; exact hb k)]
    | false =>
      rw [if_neg (by simp), List.erase_append_right _ ha]
      simp
   have hk : ∀ k ∈ rdL σ.ts, TxB w k := fun k hk => by
    unfold rdL at hk
    obtain ⟨e, he, rfl⟩ := List.mem_map.1 hk
    exact (hσ.each e (List.mem_filter.1 he).1).txb
   refine (zvs (S' := ⟨σ.dk, .pointer none, 0, if τ.wr = true then .pointer none else wrV σ.ts, σ.rd, false⟩) (ks' := (rdL σ.ts).erase τ.t) H.dk.at_ H.poi hdev hτ hσ.db hσ.rd hdo ?_).mono ?_
   . refine (zlo τ.t σ.x (τ.tx σ.x) ⟨σ.dk, .pointer none, 0, wrV σ.ts, σ.rd, false⟩ (rdL σ.ts) w hτ.tx hσ.db rfl hσ.rd hk ?_).mono ?_
     . show mayC false τ.done false τ.wr = 0
       rw [hdo]; rfl
     . rintro e w1 ⟨rfl, hT, hD, hR, ho⟩
       exact ⟨rfl, hT, hD, hR, ho⟩
   . rintro e w' ⟨he, hL, hT, hD, hR, ho⟩
     obtain ⟨p1, p2⟩ := TxI.own_parts t1
     have hfo : ∀ y, (y = τ.l \/ y = τ.t \/ y = σ.x \/ y = σ.rd) -> y = σ.x \/ y = σ.rd \/ y ∈ τ.own := fun y hy => by
      rcases hy with e | e | e | e
      . exact .inr (.inr (by rw [e]; simp [TxI.own]))
      . exact .inr (.inr (by rw [e]; simp [TxI.own]))
      . exact .inl e
      . exact .inr (.inl e)
     have hkf : KF (fun y => y = τ.l \/ y = τ.t \/ y = σ.x \/ y = σ.rd) w := KF.of fun y hy => hσ.own y (by
      rw [StI.mid hts]
      rcases hfo y hy with e | e | e
      . rw [e]; simp
      . rw [e]; simp
      . simp [e])
     have hup : TxOk w' σ.x B (N + 1) { τ with done := true } := hτ.upd ho hkf (fun y hy e => by
      rcases e with e | e | e | e
      . exact (p2 y hy).1 e
      . exact (p2 y hy).2 e
      . exact t2 (by rw [<- e]; simp only [TxI.own, List.mem_cons]; exact .inr (.inr hy))
      . exact t3 (by rw [<- e]; simp only [TxI.own, List.mem_cons]; exact .inr (.inr hy))) hL hT
     refine H.txn (τ' := { τ with done := true }) hn hst hts ho hfo hup rfl ?_ ?_ ?_ ?_ (fun y hy => .inl hy) t1 he
     . rw [hwv]; exact hD
     . rw [hrv]; exact hR
     . rw [ew', w1]
       simp only [List.nil_append, List.length_append] at hone ⊢
       omega
     . rw [er', r1]
       simp only [List.nil_append, List.length_append] at hfour ⊢
       omega
theorem zt2 (h : DiIs w B N d) (hn : d.own.Nodup) (hst : d.st = some σ) (hts : σ.ts = a ++ τ :: b) (hg : Glob w) (hN : N <= 16384) (hwB : B <= w.heap.size) :
   Calls Tryz.prog 188 #[pkv d.p, pkv τ.l] w (TurnPost B N d w) := by
 obtain ⟨s, m, bytes, kM, kW, H⟩ := h
 obtain ⟨q1, q2, q3, q4, hσ⟩ := H.sok hst
 obtain ⟨hτ, t1, t2, t3, t4⟩ := H.around hn hst hts
 obtain ⟨qq, hqq⟩ := hτ.tree.ptr
 have hC := zro τ.t σ.x (τ.tx σ.x) ⟨σ.dk, .pointer none, 0, wrV σ.ts, σ.rd, false⟩ w hτ.tx hσ.db rfl qq hqq
 cases hdo : τ.done with
 | true =>
   have hm : mayC false (τ.tx σ.x).done false (τ.tx σ.x).write = 5 := by show mayC false τ.done false τ.wr = 5; rw [hdo]; rfl
   refine (zry H.dk.at_ H.poi hτ.law hdo hg ?_).mono (fun e w' he => TurnPost.same ⟨s, m, bytes, kM, kW, H⟩ hn he.2 he.1)
   refine hC.mono ?_
   rintro e w1 ⟨hb, h1 | ⟨_, f, h1, h2, _⟩⟩
   . exact absurd (hm.symm.trans h1.1) (by decide)
   . exact ⟨hb, f, h1, by rw [<- hm]; exact h2⟩
 | false =>
   have hm : mayC false (τ.tx σ.x).done false (τ.tx σ.x).write = 0 := by show mayC false τ.done false τ.wr = 0; rw [hdo]; rfl
   refine (zrx H.dk.at_ H.poi hτ hdo hN hwB ?_).mono ?_
   . refine hC.mono ?_
     rintro e w1 ⟨hb, ⟨_, h1⟩ | ⟨h1, _⟩⟩
     . exact ⟨hb, h1⟩
     . exact absurd hm h1
   . rintro e w' ⟨he, q, c, csv', hq, hc, hrow, hblk, hL, hqz, hcz, ho⟩
     obtain ⟨p1, p2⟩ := TxI.own_parts t1
     have hfo : ∀ y, (y = τ.l \/ some y = τ.csv.ownBlock) -> y = σ.x \/ y = σ.rd \/ y ∈ τ.own := fun y hy => by
      rcases hy with e | e
      . exact .inr (.inr (by rw [e]; simp [TxI.own]))
      . exact .inr (.inr (by simp [TxI.own, <- e]))
     have hkf : KF (fun y => y = τ.l \/ some y = τ.csv.ownBlock) w := KF.of fun y hy => hσ.own y (by
      rw [StI.mid hts]
      rcases hfo y hy with e | e | e
      . rw [e]; simp
      . rw [e]; simp
      . simp [e])
     have hgq : csv'.ownBlock ≠ some q := zag hrow hq (by decide)
     have hgc : csv'.ownBlock ≠ some c := zag hrow hc (by decide)
     have hqc : q ≠ c := Blk.ne_ hq hc (by decide)
     have hlt : ∀ y ∈ τ.own, y < w.heap.size := fun y hy => (hτ.own y hy).lt
     have hmb : ∀ c ∈ τ.cs, ∀ y ∈ c.own, y ∈ τ.cs.flatMap CuI.own := fun c hc y hy => List.mem_flatMap.2 ⟨c, hc, hy⟩
     have hcn : ∀ y ∈ τ.cs.flatMap CuI.own, ¬ (y = τ.l \/ some y = τ.csv.ownBlock) := fun y hy e => by
      rcases e with e | e
      . exact (p2 y (by simp only [List.mem_append]; exact .inr hy)).1 e
      . exact (List.nodup_append.1 p1).2.2 y (by simp [<- e]) y hy rfl
     obtain ⟨τ', hτ'⟩ : ∃ τ' : TxI, τ' = { τ with csv := csv', cs := τ.cs ++ [⟨q, c, ⟨#[]⟩, false, 0⟩] } := ⟨_, rfl⟩
     have hown' : τ'.own = τ.l :: τ.t :: (csv'.ownBlock.toList ++ τ.cs.flatMap CuI.own ++ [q, c]) := by
      rw [hτ']
      unfold TxI.own
      rw [List.flatMap_append]
      simp [CuI.own]
     have hup : TxOk w' σ.x B (N + 1) τ' := by
      rw [hτ']
      have hst := hτ.st
      have hl : τ.t ≠ τ.l := Blk.ne_ hτ.tx hτ.law (by decide)
      refine ⟨hL, Blk.only hτ.tx ho (fun e => ?_), hτ.tree.size ho hkf, hτ.nd, hτ.tr, hτ.row.only ho (fun z cs hz => hkf z _ cs hz (by decide)), hτ.few, hτ.most, ⟨hst.1, by show τ.st <= ((N + 1 : Nat) : Int); omega⟩, ?_, ?_, ?_⟩
      . rcases e with e | e
        . exact hl e
        . exact zag hτ.crow hτ.tx (by decide) e.symm
      . show w'.ownsRow B 279 1 csv' (τ.cs ++ [(⟨q, c, ⟨#[]⟩, false, 0⟩ : CuI)]).length ((τ.cs ++ [(⟨q, c, ⟨#[]⟩, false, 0⟩ : CuI)]).map fun c => pkv c.q)
        rw [List.length_append, List.map_append]
        exact hrow
      . intro c2 hc2
        rcases List.mem_append.1 hc2 with k | k
        . exact (hτ.cur c2 k).only ho fun y hy => hcn y (hmb c2 k y hy)
        . rw [List.mem_singleton.1 k]
          exact ⟨hq, hc, ⟨Int.le_refl _, hst.1⟩, fun h => by (cases h)⟩
      . show (τ.cs ++ [(⟨q, c, ⟨#[]⟩, false, 0⟩ : CuI)]).length <= N + 1
        have := hτ.cn
        rw [List.length_append]
        simp only [List.length_cons, List.length_nil]
        omega
     have m1 : τ'.wr = τ.wr := by rw [hτ']
     have m2 : τ'.done = τ.done := by rw [hτ']
     have m3 : τ'.t = τ.t := by rw [hτ']
     refine H.txn (τ' := τ') hn hst hts ho hfo hup (by rw [hτ']) ?_ ?_ ?_ ?_ ?_ ?_ he
     . rw [zlh m1 m2 m3, <- hts]
       refine Blk.only hσ.db ho fun e => ?_
       rcases e with e | e
       . exact Blk.ne_ hσ.db hτ.law (by decide) e
       . exact zag hτ.crow hσ.db (by decide) e.symm
     . rw [zf5 m1 m2 m3, <- hts]
       refine hσ.rd.only ho fun e => ?_
       rcases e with e | e
       . exact hσ.rd.ne_blk hτ.law e
       . obtain ⟨_, _, _, _, _, hr, _⟩ := zaf hτ.crow
         obtain ⟨_, _, _, cur, hb, _⟩ := hr _ e.symm
         exact hσ.rd.ne_blk hb rfl
     . rw [zit m1 m2 m3, <- hts]; exact hσ.one
     . rw [zf5 m1 m2 m3, <- hts]; exact hσ.four
     . intro y hy
       rw [hown'] at hy
       simp only [List.mem_cons, List.mem_append, List.not_mem_nil, or_false] at hy
       simp only [TxI.own, List.mem_cons, List.mem_append]
       rcases hy with k | k | (k | k) | k | k
       . exact .inl (.inl k)
       . exact .inl (.inr (.inl k))
       . rw [Option.mem_toList] at k
         rcases hblk y k with e | e
         . exact .inl (.inr (.inr (.inl (by rw [Option.mem_toList]; exact e))))
         . exact .inr e
       . exact .inl (.inr (.inr (.inr k)))
       . exact .inr (by omega)
       . exact .inr (by omega)
     . rw [hown']
       have h1 : ([τ.l, τ.t] ++ csv'.ownBlock.toList ++ τ.cs.flatMap CuI.own).Nodup := by
        refine zff (F := τ.csv.ownBlock.toList) (z := w.heap.size) ?_ ?_ ?_ ?_
        . rw [List.append_assoc]; exact t1
        . intro y hy; rw [List.append_assoc] at hy; exact hlt y hy
        . cases csv'.ownBlock <;> simp
        . intro y hy
          rw [Option.mem_toList] at hy
          rcases hblk y hy with e | e
          . exact .inl (by rw [Option.mem_toList]; exact e)
          . exact .inr e
       have e : τ.l :: τ.t :: (csv'.ownBlock.toList ++ τ.cs.flatMap CuI.own ++ [q, c]) = ([τ.l, τ.t] ++ csv'.ownBlock.toList ++ τ.cs.flatMap CuI.own) ++ [q, c] := by simp
       rw [e]
       refine List.nodup_append.2 ⟨h1, by simp [hqc], fun y hy z hz k => ?_⟩
       subst k
       simp only [List.mem_cons, List.mem_append, List.not_mem_nil, or_false] at hy hz
       have hyl : w.heap.size <= y := by rcases hz with k | k <;> omega
       rcases hy with ((k | k) | k) | k
       . have := hlt y (by rw [k]; simp [TxI.own]); omega
       . have := hlt y (by rw [k]; simp [TxI.own]); omega
       . rw [Option.mem_toList] at k
         rcases hz with z | z
         . exact hgq (z ▸ k)
         . exact hgc (z ▸ k)
       . have := hlt y (by simp only [TxI.own, List.mem_cons, List.mem_append]; exact .inr (.inr (.inr k))); omega
end
section
variable {w : World} {B N : Nat} {d : DiI} {σ : StI} {τ : TxI} {a b : List TxI} {u : CuI} {ca cb : List CuI}
theorem zkz {_how : Int} {_k : Str} {n : Nat} {_Q : Ending -> World -> Prop} {W : World} {c t : Nat} {τ : TxS} {s : DbS} {on : Bool} {stamp : Int} {op : Str} {from_ : Bool} {res : Option (Str × Str)}
   (hn : (mayC s.poi τ.done false τ.write ≠ 0 /\ mayC s.poi τ.done false τ.write = n) \/ (mayC s.poi τ.done false τ.write = 0 /\ n = 11 /\ from_ = true /\ (on = false \/ (on = true /\ stamp ≠ τ.stamp)))) : ∀ {e w1}, zfg c t τ s op from_ on stamp res W e w1 -> Below W.heap.size W w1 /\ ∃ f op, e = .returned (.tuple #[zao none, .bool false, zad f]) /\ zaj w1 f op n := by
 rintro e w1 (⟨h0, hb, f, h1, h2, _⟩ | ⟨h0, _, hb, f, h1, h2, _⟩ | ⟨h0, h1, _⟩)
 . rcases hn with ⟨_, rfl⟩ | ⟨k0, _⟩
   . exact ⟨hb, f, op, h1, h2⟩
   . exact absurd k0 h0
 . rcases hn with ⟨k0, _⟩ | ⟨_, rfl, _⟩
   . exact absurd h0 k0
   . exact ⟨hb, f, op, h1, h2⟩
 . rcases hn with ⟨k0, _⟩ | ⟨_, _, k1, k2⟩
   . exact absurd h0 k0
   . rcases h1 with h1 | ⟨_, h1, h2⟩
     . rw [k1] at h1; cases h1
     . rcases k2 with k2 | ⟨_, k2⟩
       . rw [k2] at h1; cases h1
       . exact absurd h2 k2
theorem zk0 {W : World} {c t : Nat} {τ : TxS} {s : DbS} {on : Bool} {stamp : Int} {op : Str} {from_ : Bool} {res : Option (Str × Str)}
   (h0 : mayC s.poi τ.done false τ.write = 0) (h1 : from_ = false \/ (on = true /\ stamp = τ.stamp)) : ∀ {e w1}, zfg c t τ s op from_ on stamp res W e w1 -> e = .returned (.tuple #[zao res, .bool res.isSome, .nilIface]) /\ zbj w1 c t (rK res) res.isSome τ.stamp /\ Only (· = c) W w1 := by
 rintro e w1 (⟨k0, _⟩ | ⟨_, ⟨k1, k2⟩, _⟩ | ⟨_, _, k1, k2, k3⟩)
 . exact absurd h0 k0
 . rcases h1 with h1 | ⟨h1, h2⟩
   . rw [k1] at h1; cases h1
   . rcases k2 with k2 | ⟨_, k2⟩
     . rw [h1] at k2; cases k2
     . exact absurd h2 k2
 . exact ⟨k1, k2, k3⟩
theorem zxj (how : Int) (k : Str) (h : DiIs w B N d) (hn : d.own.Nodup) (hst : d.st = some σ) (hts : σ.ts = a ++ τ :: b) (hcs : τ.cs = ca ++ u :: cb) (hg : Glob w) (hk : k.size <= 9223372036854775807) (hh : how = 0 \/ how = 1 \/ how = 2 \/ how = 3 \/ how = 4) :
   Calls Tryz.prog 189 #[pkv d.p, pkv τ.l, pkv u.q, .int .i64 how, .string k] w (TurnPost B N d w) := by
 obtain ⟨s, m, bytes, kM, kW, H⟩ := h
 obtain ⟨q1, q2, q3, q4, hσ⟩ := H.sok hst
 obtain ⟨hτ, t1, t2, t3, t4⟩ := H.around hn hst hts
 have hdev : DkAt w s.db (.slice (some ⟨d.g, 0, none⟩) s.n (zcs bytes)) (.slice none 0 0) m := by rw [H.dk.db]; exact H.dk.dk.at_
 have hu := hτ.cur u (by rw [hcs]; simp)
 have hlen := hτ.len
 have hW : ∀ W, Below w.heap.size w W -> zbj W u.c τ.t u.key u.on u.stamp /\ TxAt W τ.t (τ.tx σ.x) /\ DbAt W σ.x ⟨σ.dk, .pointer none, 0, wrV σ.ts, σ.rd, false⟩ /\ TreeV (fun z => z < W.heap.size) W τ.T τ.rp τ.dn := fun W hb =>
  ⟨Blk.below hu.at_ hb (Blk.lt hu.at_), Blk.below hτ.tx hb (Blk.lt hτ.tx), Blk.below hσ.db hb (Blk.lt hσ.db), hτ.tree.size (fp := fun _ => False) (Only.of_below hb) (fun _ _ _ _ _ => id)⟩
 have hF := fun W hb => zr0 u.c τ.t σ.x (τ.tx σ.x) ⟨σ.dk, .pointer none, 0, wrV σ.ts, σ.rd, false⟩ u.key u.on u.stamp W (hW W hb).1 (hW W hb).2.1 (hW W hb).2.2.1 rfl τ.T τ.dn rfl (hW W hb).2.2.2 hτ.tr (by omega)
 have hL := fun W hb => zts u.c τ.t σ.x (τ.tx σ.x) ⟨σ.dk, .pointer none, 0, wrV σ.ts, σ.rd, false⟩ u.key u.on u.stamp W (hW W hb).1 (hW W hb).2.1 (hW W hb).2.2.1 rfl τ.T τ.dn rfl (hW W hb).2.2.2 hτ.tr (by omega)
 have hS := fun W hb => ztt u.c τ.t σ.x (τ.tx σ.x) ⟨σ.dk, .pointer none, 0, wrV σ.ts, σ.rd, false⟩ u.key u.on u.stamp k W (hW W hb).1 (hW W hb).2.1 (hW W hb).2.2.1 rfl τ.T τ.dn rfl (hW W hb).2.2.2 hτ.tr (by omega)
 have hX := fun W hb => ztu u.c τ.t σ.x (τ.tx σ.x) ⟨σ.dk, .pointer none, 0, wrV σ.ts, σ.rd, false⟩ u.key u.on u.stamp W (hW W hb).1 (hW W hb).2.1 (hW W hb).2.2.1 rfl τ.T τ.dn rfl (hW W hb).2.2.2 hτ.tr (by omega)
 have hP := fun W hb => ztv u.c τ.t σ.x (τ.tx σ.x) ⟨σ.dk, .pointer none, 0, wrV σ.ts, σ.rd, false⟩ u.key u.on u.stamp W (hW W hb).1 (hW W hb).2.1 (hW W hb).2.2.1 rfl τ.T τ.dn rfl (hW W hb).2.2.2 hτ.tr (by omega)
 have hfive : ∀ n, ((τ.done = true /\ n = 5) \/ (τ.done = false /\ n = 11 /\ 3 <= how /\ (u.on = false \/ (u.on = true /\ u.stamp ≠ τ.st)))) -> Calls Tryz.prog 189 #[pkv d.p, pkv τ.l, pkv u.q, .int .i64 how, .string k] w (TurnPost B N d w) := fun n hcase => by
  refine (zvv how k n H.dk.at_ H.poi hdev hτ hu hg hk hh hcase ?_).mono (fun e w' he => TurnPost.same ⟨s, m, bytes, kM, kW, H⟩ hn he.2 he.1)
  intro W hb
  have hcond : ∀ from_ : Bool, (3 <= how -> from_ = true) -> (mayC false (τ.tx σ.x).done false (τ.tx σ.x).write ≠ 0 /\ mayC false (τ.tx σ.x).done false (τ.tx σ.x).write = n) \/ (mayC false (τ.tx σ.x).done false (τ.tx σ.x).write = 0 /\ n = 11 /\ from_ = true /\ (u.on = false \/ (u.on = true /\ u.stamp ≠ (τ.tx σ.x).stamp))) := fun from_ hfr => by
   have e : mayC false (τ.tx σ.x).done false (τ.tx σ.x).write = if τ.done = true then 5 else 0 := by show mayC false τ.done false τ.wr = _; cases τ.done <;> rfl
   rw [e]
   rcases hcase with ⟨h1, h2⟩ | ⟨h1, h2, h3, h4⟩
   . exact .inl ⟨by rw [if_pos h1]; decide, by rw [if_pos h1, h2]⟩
   . exact .inr ⟨by rw [if_neg (by rw [h1]; simp)], h2, hfr h3, h4⟩
  exact ⟨fun e => (hF W hb).mono fun _ _ => zkz (_how := how) (_k := k) (_Q := fun _ _ => True) (hcond false (fun h => by omega)), fun e => (hL W hb).mono fun _ _ => zkz (_how := how) (_k := k) (_Q := fun _ _ => True) (hcond false (fun h => by omega)), fun e => (hS W hb).mono fun _ _ => zkz (_how := how) (_k := k) (_Q := fun _ _ => True) (hcond false (fun h => by omega)), fun e => (hX W hb).mono fun _ _ => zkz (_how := how) (_k := k) (_Q := fun _ _ => True) (hcond true (fun _ => rfl)), fun e => (hP W hb).mono fun _ _ => zkz (_how := how) (_k := k) (_Q := fun _ _ => True) (hcond true (fun _ => rfl))⟩
 have hgo : ∀ res, τ.done = false -> (3 <= how -> u.on = true /\ u.stamp = τ.st) -> zfh how k u.key τ.T.pairs res -> (∀ W, Below w.heap.size w W -> zod how u.c k W fun e w1 => e = .returned (.tuple #[zao res, .bool res.isSome, .nilIface]) /\ zbj w1 u.c τ.t (rK res) res.isSome τ.st /\ Only (· = u.c) W w1) -> Calls Tryz.prog 189 #[pkv d.p, pkv τ.l, pkv u.q, .int .i64 how, .string k] w (TurnPost B N d w) := fun res hdo hlost hgoes hmv => by
  refine (zvw how k res H.dk.at_ H.poi hdev hτ hu hk hh hdo hlost hgoes hmv).mono ?_
  rintro e w' ⟨he, hq, hc, ho⟩
  obtain ⟨p1, p2⟩ := TxI.own_parts t1
  have hqc : u.q ≠ u.c := Blk.ne_ hu.law hu.at_ (by decide)
  obtain ⟨τ', hτ'⟩ : ∃ τ' : TxI, τ' = { τ with cs := ca ++ (⟨u.q, u.c, rK res, res.isSome, τ.st⟩ : CuI) :: cb } := ⟨_, rfl⟩
  have hmap : ∀ {β : Type} (f : CuI -> β), f ⟨u.q, u.c, rK res, res.isSome, τ.st⟩ = f u -> (ca ++ (⟨u.q, u.c, rK res, res.isSome, τ.st⟩ : CuI) :: cb).map f = τ.cs.map f := fun f hf => by
   rw [hcs]; simp [hf]
  have hown' : τ'.own = τ.own := by
   rw [hτ']
   unfold TxI.own
   rw [hcs]
   simp [CuI.own]
  have hfo : ∀ y, (y = u.c \/ y = u.q) -> y = σ.x \/ y = σ.rd \/ y ∈ τ.own := fun y hy => by
   refine .inr (.inr ?_)
   simp only [TxI.own, List.mem_cons, List.mem_append, List.mem_flatMap]
   exact .inr (.inr (.inr ⟨u, by rw [hcs]; simp, by rcases hy with e | e <;> simp [CuI.own, e]⟩))
  have hkf : KF (fun y => y = u.c \/ y = u.q) w := KF.of fun y hy => by
   rcases hy with e | e
   . rw [e]; exact OwnB.blk hu.at_ (by decide)
   . rw [e]; exact OwnB.blk hu.law (by decide)
  have hne : ∀ {y : Nat} {T : TypeId} {cx : Array Value}, Blk w y T cx -> T ≠ 118 -> T ≠ 302 -> ¬ (y = u.c \/ y = u.q) := fun hy h1 h2 e => by
   rcases e with e | e
   . exact Blk.ne_ hy hu.at_ h1 e
   . exact Blk.ne_ hy hu.law h2 e
  have hnd : (ca.flatMap CuI.own ++ u.own ++ cb.flatMap CuI.own).Nodup := by
   have := (List.nodup_append.1 p1).2.1
   rw [hcs, List.flatMap_append, List.flatMap_cons, <- List.append_assoc] at this
   exact this
  obtain ⟨m1, m2, m3⟩ := List.nodup_append.1 hnd
  obtain ⟨m4, m5, m6⟩ := List.nodup_append.1 m1
  have hup : TxOk w' σ.x B (N + 1) τ' := by
   rw [hτ']
   have hst := hτ.st
   refine ⟨Blk.only hτ.law ho (hne hτ.law (by decide) (by decide)), Blk.only hτ.tx ho (hne hτ.tx (by decide) (by decide)), hτ.tree.size ho hkf, hτ.nd, hτ.tr, hτ.row.only ho (fun z cs hz => hkf z _ cs hz (by decide)), hτ.few, hτ.most, ⟨hst.1, by show τ.st <= ((N + 1 : Nat) : Int); omega⟩, ?_, ?_, ?_⟩
   . have := zam hτ.crow ho (fun z cs hz => hne hz (by decide) (by decide))
     have e1 := hmap (fun c => pkv c.q) rfl
     have e2 : (ca ++ (⟨u.q, u.c, rK res, res.isSome, τ.st⟩ : CuI) :: cb).length = τ.cs.length := by rw [hcs]; simp
     show w'.ownsRow B 279 1 τ.csv (ca ++ (⟨u.q, u.c, rK res, res.isSome, τ.st⟩ : CuI) :: cb).length ((ca ++ (⟨u.q, u.c, rK res, res.isSome, τ.st⟩ : CuI) :: cb).map fun c => pkv c.q)
     rw [e1, e2]
     exact this
   . intro c2 hc2
     rcases List.mem_append.1 hc2 with k2 | k2
     . refine (hτ.cur c2 (by rw [hcs]; simp [k2])).only ho fun y hy e => ?_
       exact m6 y (List.mem_flatMap.2 ⟨c2, k2, hy⟩) y (by rcases e with e | e <;> simp [CuI.own, e]) rfl
     . rcases List.mem_cons.1 k2 with rfl | k2
       . exact ⟨hq, hc, ⟨hst.1, Int.le_refl _⟩, fun hs _ => zvy hgoes hs⟩
       . refine (hτ.cur c2 (by rw [hcs]; simp [k2])).only ho fun y hy e => ?_
         exact m3 y (by rw [List.mem_append]; exact .inr (by rcases e with e | e <;> simp [CuI.own, e])) y (List.mem_flatMap.2 ⟨c2, k2, hy⟩) rfl
   . have := hτ.cn
     rw [hcs] at this
     simp only [List.length_append, List.length_cons] at this ⊢
     omega
  have e1 : τ'.wr = τ.wr := by rw [hτ']
  have e2 : τ'.done = τ.done := by rw [hτ']
  have e3 : τ'.t = τ.t := by rw [hτ']
  refine H.txn (τ' := τ') hn hst hts ho hfo hup (by rw [hτ']) ?_ ?_ ?_ ?_ (fun y hy => .inl (hown' ▸ hy)) (by rw [hown']; exact t1) he
  . rw [zlh e1 e2 e3, <- hts]
    exact Blk.only hσ.db ho (hne hσ.db (by decide) (by decide))
  . rw [zf5 e1 e2 e3, <- hts]
    refine hσ.rd.only ho fun e => ?_
    rcases e with e | e
    . exact hσ.rd.ne_blk hu.at_ e
    . exact hσ.rd.ne_blk hu.law e
  . rw [zit e1 e2 e3, <- hts]; exact hσ.one
  . rw [zf5 e1 e2 e3, <- hts]; exact hσ.four
 cases hdo : τ.done with
 | true => exact hfive 5 (.inl ⟨hdo, rfl⟩)
 | false =>
   have hm : mayC false (τ.tx σ.x).done false (τ.tx σ.x).write = 0 := by show mayC false τ.done false τ.wr = 0; rw [hdo]; rfl
   have tw := hτ.tr.tw
   by_cases h3 : 3 <= how
   . by_cases hl : u.on = true /\ u.stamp = τ.st
     . have hhas := hu.has hl.1 hl.2
       by_cases h4 : how = 3
       . subst h4
         exact hgo _ hdo (fun _ => hl) (zt0 tw hhas) fun W hb => ⟨fun e => by omega, fun e => by omega, fun e => by omega, fun _ => (hX W hb).mono fun _ _ => zk0 hm (.inr hl), fun e => by omega⟩
       . have h5 : how = 4 := by omega
         subst h5
         exact hgo _ hdo (fun _ => hl) (zt1 tw hhas) fun W hb => ⟨fun e => by omega, fun e => by omega, fun e => by omega, fun e => by omega, fun _ => (hP W hb).mono fun _ _ => zk0 hm (.inr hl)⟩
     . refine hfive 11 (.inr ⟨hdo, rfl, h3, ?_⟩)
       cases ho : u.on with
       | false => exact .inl rfl
       | true => exact .inr ⟨rfl, fun e => hl ⟨ho, e⟩⟩
   . have h6 : how = 0 \/ how = 1 \/ how = 2 := by omega
     rcases h6 with rfl | rfl | rfl
     . exact hgo _ hdo (fun h => by omega) (zr1 tw) fun W hb => ⟨fun _ => (hF W hb).mono fun _ _ => zk0 hm (.inl rfl), fun e => by omega, fun e => by omega, fun e => by omega, fun e => by omega⟩
     . exact hgo _ hdo (fun h => by omega) (zty tw) fun W hb => ⟨fun e => by omega, fun _ => (hL W hb).mono fun _ _ => zk0 hm (.inl rfl), fun e => by omega, fun e => by omega, fun e => by omega⟩
     . exact hgo _ hdo (fun h => by omega) (ztz tw) fun W hb => ⟨fun e => by omega, fun e => by omega, fun _ => (hS W hb).mono fun _ _ => zk0 hm (.inl rfl), fun e => by omega, fun e => by omega⟩
end
end Go.Proofs.YtemondlgcmpbbaaGreatDoor
