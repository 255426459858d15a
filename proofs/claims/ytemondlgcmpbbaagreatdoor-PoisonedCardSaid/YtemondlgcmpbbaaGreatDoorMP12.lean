/- Np Pc Sg Pn: merged. -/
import Derived.Test.YtemondlgcmpbbaaGreatDoorMP11
import Derived.Test.YtemondlgcmpbbaaGreatDoorMP02
import Derived.Test.YtemondlgcmpbbaaGreatDoorMP04
import Derived.Deep.AppendSrc
import Derived.Test.YtemondlgcmpbbaaGreatDoorMP03
import Derived.BigQuiet
import Derived.Deep.QuietTactic
import Derived.RegionTactic
namespace Go.Proofs.YtemondlgcmpbbaaGreatDoor
open Go.RowKit
set_option maxRecDepth 100000
def by8 (n : Nat) : UInt8 := UInt8.ofNat (n % 256)
def sb (s : Str) : List UInt8 := s.data.toList
theorem zds (s : Str) : (sb s).length = s.size := by unfold sb; rw [Array.length_toList]; rfl
def pby (e : Str × Str) : List UInt8 := by8 e.1.size :: by8 e.2.size :: (sb e.1 ++ sb e.2)
def kby (k : Str) (blk gen : Nat) : List UInt8 := by8 k.size :: (sb k ++ by8 blk :: by8 (blk / 256) :: le4 gen)
def nhd (blk gen kind n : Nat) : List UInt8 := [0, 0, 0, 0] ++ le4 gen ++ [by8 blk, by8 (blk / 256), by8 kind, by8 n]
def zt3 : (h : Nat) -> Tr h -> List UInt8
 | 0, n => nhd (Nd.blk n) (Nd.gen n) 1 (Nd.es n).length ++ (Nd.es n).flatMap pby
 | h + 1, n => nhd (Nd.blk n) (Nd.gen n) 2 (Nd.es n).length ++ (Nd.es n).flatMap fun e => kby e.1 (Tr.blk h e.2) (Tr.gen h e.2)
def nby (h : Nat) (n : Tr h) : List UInt8 := sealN (pad 128 (zt3 h n))
theorem zsr (e : Str × Str) : (pby e).length = lsz e := by
 unfold pby lsz
 simp only [List.length_cons, List.length_append, zds]; omega
theorem zss (k : Str) (b g : Nat) : (kby k b g).length = 7 + k.size := by
 unfold kby
 simp only [List.length_cons, List.length_append, zds, zd7]; omega
theorem zgx (es : List (Str × Str)) : (es.flatMap pby).length = lsum es := by
 induction es with
 | nil => rfl
 | cons e es ih => rw [List.flatMap_cons, List.length_append, ih, zsr]; rfl
theorem zkz {K : Type} (f g : K -> Nat) (es : List (Str × K)) : (es.flatMap fun e => kby e.1 (f e.2) (g e.2)).length = ksum es := by
 induction es with
 | nil => rfl
 | cons e es ih => rw [List.flatMap_cons, List.length_append, ih, zss]; rfl
theorem zfm (b g k n : Nat) : (nhd b g k n).length = 12 := rfl
theorem zy9 (l xs : List UInt8) (h : l.length + xs.length <= 128) : zdj (pad 128 l) l.length xs = pad 128 (l ++ xs) := by
 unfold zdj pad
 rw [List.take_left, List.drop_append, List.drop_eq_nil_of_le (by omega), List.nil_append, List.drop_replicate, List.length_append]
 congr 2
 omega
theorem zm0 (l xs ys zs : List UInt8) (hx : ys.length = xs.length) : zdj (pad 128 (l ++ xs ++ zs)) l.length ys = pad 128 (l ++ ys ++ zs) := by
 unfold zdj pad
 simp only [List.append_assoc, List.take_left, List.length_append]
 congr 1
 rw [hx, List.drop_append, List.drop_eq_nil_of_le (by omega), List.nil_append, Nat.add_sub_cancel_left]
 rw [List.drop_left]
theorem zj7 {P : Program} (w : World) {o : Oper} {a : Act} {K : Act -> World -> Prop} {Q : Exit -> Act -> World -> Prop} (s x : Operand) (t tx : TypeId) (ho : o.op = .call { callee := .builtin .append, args := #[s, x], argTypes := #[t, tx] }) (e : TypeId) (i : TypeInfo) (ht : P.underlying t = some (.slice e)) (hi : P.info? e = some i) (hsz : i.size = 1)
   (g cap : Nat) (l xs : List UInt8) (hs : a.eval s = .slice (some ⟨g, 0, none⟩) l.length cap) (hg : Blk w g e (bc (pad 128 l)).toArray)
   (v : Value) (hx : a.eval x = v) (hsrc : Src P 1 tx v xs.length (bc xs) w) (hroom : l.length + xs.length <= cap) (hfit : l.length + xs.length <= 128)
   (h : ∀ w', Blk w' g e (bc (pad 128 (l ++ xs))).toArray -> Only (· = g) w w' -> w'.heap.size = w.heap.size -> K (a.put o.dst (.slice (some ⟨g, 0, none⟩) (l ++ xs).length cap)) w') : o.wp P a w K Q := by
 have hlen : (pad 128 l).length = 128 := zb5 _ _ (by omega)
 have hst := run_storeCells_at P g l.length e (bc xs) 0 (bc (pad 128 l)).toArray w hg (by simp [zal, hlen]; omega) (zfx xs)
 simp only [Nat.add_zero] at hst
 have hrun : (Builtin.append_ #[t, tx] o.type #[.slice (some ⟨g, 0, none⟩) l.length cap, v]).run P w = .ok (.slice (some ⟨g, 0, none⟩) (l.length + xs.length) cap) (w.setRow g (bc (pad 128 (l ++ xs))).toArray) := by
  have he : (bc (pad 128 l)).take l.length ++ bc xs ++ (bc (pad 128 l)).drop (l.length + (bc xs).length) = bc (pad 128 (l ++ xs)) := by
   rw [<- zy9 _ _ hfit, <- zhz]
   rfl
  simp only [he] at hst
  have h1 := hsrc.cells
  rcases hsrc.kind with ⟨e', hk⟩ | hk <;> simp [Builtin.append_, run_underlying ht, run_underlying hk, sizeOf, typeInfo, hi, hsz, hsrc.len, hroom, h1, Addr.add_lit, hst]
 rw [<- List.length_append] at hrun
 unfold Oper.wp
 simp [execOp, ho, resolve, invoke, builtin, hx, hs, hrun, Result.andThen]
 rw [<- List.length_append]
 exact h _ (by have := setRow_heap w g _ (bc (pad 128 (l ++ xs))).toArray e _ hg; unfold Blk; simpa using this) ⟨rfl, rfl, rfl, by simp [World.setRow], fun k hk hne => setRow_other w g k _ hne⟩ (by simp [World.setRow])
theorem zl1 {P : Program} (w : World) {ops : Array Oper} {rest : List Oper} {o : Oper} {a : Act} {Q : Exit -> Act -> World -> Prop} (hgd : o.guard = none) (s x : Operand) (t tx : TypeId) (ho : o.op = .call { callee := .builtin .append, args := #[s, x], argTypes := #[t, tx] }) (e : TypeId) (i : TypeInfo) (ht : P.underlying t = some (.slice e)) (hi : P.info? e = some i) (hsz : i.size = 1)
   (g cap : Nat) (l xs : List UInt8) (hs : a.eval s = .slice (some ⟨g, 0, none⟩) l.length cap) (hg : Blk w g e (bc (pad 128 l)).toArray)
   (v : Value) (hx : a.eval x = v) (hsrc : Src P 1 tx v xs.length (bc xs) w) (hroom : l.length + xs.length <= cap) (hfit : l.length + xs.length <= 128)
   (h : ∀ w', Blk w' g e (bc (pad 128 (l ++ xs))).toArray -> Only (· = g) w w' -> w'.heap.size = w.heap.size -> wpList P ops Q rest (a.put o.dst (.slice (some ⟨g, 0, none⟩) (l ++ xs).length cap)) w') : wpList P ops Q (o :: rest) a w :=
 wpList_plain hgd fun _ hK => zj7 w s x t tx ho e i ht hi hsz g cap l xs hs hg v hx hsrc hroom hfit fun w' h2 h3 h4 => hK _ _ (h w' h2 h3 h4)
theorem zdt {P : Program} (w : World) {ops : Array Oper} {o : Oper} {a : Act} {K : Act -> World -> Prop} {Q : Exit -> Act -> World -> Prop} {E : Prop} (hgd : o.guard = none) (s x : Operand) (t tx : TypeId) (ho : o.op = .call { callee := .builtin .append, args := #[s, x], argTypes := #[t, tx] }) (e : TypeId) (i : TypeInfo) (ht : P.underlying t = some (.slice e)) (hi : P.info? e = some i) (hsz : i.size = 1)
   (g cap : Nat) (l xs : List UInt8) (hs : a.eval s = .slice (some ⟨g, 0, none⟩) l.length cap) (hg : Blk w g e (bc (pad 128 l)).toArray)
   (v : Value) (hx : a.eval x = v) (hsrc : Src P 1 tx v xs.length (bc xs) w) (hroom : l.length + xs.length <= cap) (hfit : l.length + xs.length <= 128)
   (h : ∀ w', Blk w' g e (bc (pad 128 (l ++ xs))).toArray -> Only (· = g) w w' -> w'.heap.size = w.heap.size -> K (a.put o.dst (.slice (some ⟨g, 0, none⟩) (l ++ xs).length cap)) w') : if Region.wanted o (yielded ops a.tmps) = true then Oper.wp P o a w K Q else E := by
 have hw : Region.wanted o (yielded ops a.tmps) = true := by simp [Region.wanted, hgd]
 rw [if_pos hw]
 exact zj7 w s x t tx ho e i ht hi hsz g cap l xs hs hg v hx hsrc hroom hfit h
theorem zm1 {P : Program} {tx : TypeId} (hk : P.underlying tx = some .string) (s : Str) (w : World) : Src P 1 tx (.string s) (sb s).length (bc (sb s)) w := by
 rw [zds]
 exact Src.ofString w hk s
theorem zm2 {P : Program} {tx e' : TypeId} (hk : P.underlying tx = some (.slice e')) {w : World} {g c : Nat} {T : TypeId} {xs : List UInt8} (hb : Blk w g T (bc xs).toArray) : Src P 1 tx (.slice (some ⟨g, 0, none⟩) xs.length c) xs.length (bc xs) w :=
 Src.ofSlice w hk _ _ _ _ (by rw [zal, Nat.mul_one]) (fun j u hu => by
  have : (⟨g, 0, none⟩ : Addr).add j = ⟨g, 0 + j, none⟩ := Addr.add_lit ..
  rw [this, Nat.zero_add, hb.cell]
  simpa using hu) (zfx xs)
def CuAt (w : World) (c g o n k : Nat) (bytes : List UInt8) : Prop := Blk w c 288 #[.slice (some ⟨g, o, none⟩) n k, .bool false] /\ SlU w (some ⟨g, o, none⟩) n k bytes
def adv (o cap k : Nat) : Nat := if cap = k then o else o + k
set_option maxHeartbeats 1000000 in
theorem zza (c g o n cap k : Nat) (bytes : List UInt8) (w : World) (h : CuAt w c g o n cap bytes) (hk : k <= n) (_hn : n <= 1000) (hcap : cap <= 1000) :
   Calls Tryz.prog 196 #[.pointer (some ⟨c, 0, none⟩), .int .i64 k] w fun e w' => e = .returned (.slice (some ⟨g, o, none⟩) k cap) /\ SlU w' (some ⟨g, o, none⟩) k cap (bytes.take k) /\ CuAt w' c g (adv o cap k) (n - k) (cap - k) (bytes.drop k) /\ Only (· = c) w w' := by
 obtain ⟨hc, hs⟩ := h
 have c0 : w.cell? ⟨c, 0, none⟩ = some (.slice (some ⟨g, o, none⟩) n cap) := zab hc 0 rfl
 have c1 : w.cell? ⟨c, 1, none⟩ = some (.bool false) := zab hc 1 rfl
 have f0 : w.frozen? ⟨c, 0, none⟩ = false := hc.frozen 0
 have hnc := hs.2.1
 have q1 : ¬ (n : Int) < (k : Int) := by omega
 have q2 : (k : Int) <= (n : Int) := by omega
 have q3 : (n : Int) <= (cap : Int) := by omega
 have q4 : (k : Int) <= (cap : Int) := by omega
 have q5 : (0 : Int) <= (k : Int) := by omega
 have HC := zaa hc
 have HS := zaa hs
 clear hc hs
 go_enter Tryz.func196, Tryz.ntmps196
 have hnp : ∀ x cs, Blk w x 5 cs -> ¬ x = c := fun x cs hx e => Blk.ne_ hx HC.out (by decide) e
 have HN := zaa hnp
 clear hnp
 go_wp2
 . go_ret
   have ho : Only (· = c) w (w.setCell ⟨c, 0, none⟩ (.slice (some ⟨g, o, none⟩) (n - k) 0)) := Only.set1 _ _ _ _
   rw [show adv o k k = o from if_pos rfl]
   subst h
   obtain rfl : n = cap := by omega
   have hl := HS.out.1
   have hh := (HS.out.headOf n hk).only ho HN.out
   have hb := HC.out.set_ 0 (.slice (some ⟨g, o, none⟩) (n - n) 0)
   simp only [Nat.sub_self] at hb ho hh ⊢
   exact ⟨rfl, hh, ⟨hb, ⟨by rw [List.length_drop, hl, Nat.sub_self], Nat.le_refl _, by unfold maxLen; omega, fun h0 => by omega⟩⟩, ho⟩
 . go_ret
   have ho : Only (· = c) w (w.setCell ⟨c, 0, none⟩ (.slice (some ⟨g, o + k, none⟩) (n - k) (cap - k))) := Only.set1 _ _ _ _
   rw [show adv o cap k = o + k from if_neg h]
   refine ⟨rfl, (HS.out.headOf k hk).only ho HN.out, ⟨HC.out.set_ 0 _, ?_⟩, ho⟩
   have ht := (HS.out.tail k hk (by omega)).only ho HN.out
   have hA : (some (⟨g, o, none⟩ : Addr)).map (·.add k) = some ⟨g, o + k, none⟩ := by simp only [Option.map_some, Addr.add]; split <;> simp_all
   rwa [hA] at ht
theorem zzb {w : World} {g o k c : Nat} {xs : List UInt8} (h : SlU w (some ⟨g, o, none⟩) k c xs) : (convert 77 9 (.slice (some ⟨g, o, none⟩) k c)).run Tryz.prog w = .ok (.string ⟨xs.toArray⟩) w := by
 have hl := h.1
 have := run_convert_bytes_back (P := Tryz.prog) w 77 9 5 ⟨g, o, none⟩ c xs Tryz.underlying77 Tryz.underlying5 Tryz.underlying9 (fun j hj => by
  obtain ⟨g', o', hA, x, hx, hc⟩ := h.at_ (j := j) (by omega)
  injection hA with hA
  injection hA with h1 h2
  subst h1; subst h2
  rw [List.getElem?_eq_getElem hj] at hx
  injection hx with hx
  rw [Addr.add_lit, hx]
  exact hc)
 rw [hl] at this
 exact this
theorem zfn (c g o cap k : Nat) (l R : List UInt8) (w : World) (hl : l.length = k) (h : CuAt w c g o (k + R.length) cap (l ++ R)) (hn : k + R.length <= 1000) (hcap : cap <= 1000) :
   Calls Tryz.prog 196 #[.pointer (some ⟨c, 0, none⟩), .int .i64 k] w fun e w' => e = .returned (.slice (some ⟨g, o, none⟩) k cap) /\ SlU w' (some ⟨g, o, none⟩) k cap l /\ CuAt w' c g (adv o cap k) R.length (cap - k) R /\ Only (· = c) w w' := by
 subst hl
 refine (zza c g o (l.length + R.length) cap l.length (l ++ R) w h (by omega) hn hcap).mono ?_
 rintro e w' ⟨h1, h2, h3, h4⟩
 rw [List.take_left] at h2
 rw [List.drop_left, Nat.add_sub_cancel_left] at h3
 exact ⟨h1, h2, h3, h4⟩
theorem SlU.at_blk {w w' : World} {g o n c : Nat} {xs : List UInt8} {cs : Array Value} (h : SlU w (some ⟨g, o, none⟩) n c xs) (hb : Blk w g 5 cs) (hb' : Blk w' g 5 cs) : SlU w' (some ⟨g, o, none⟩) n c xs := by
 obtain ⟨h1, h2, h3, h4⟩ := h
 refine ⟨h1, h2, h3, fun h0 => ?_⟩
 obtain ⟨g', o', cur, hA, hg, hx⟩ := h4 h0
 injection hA with hA
 injection hA with e1 e2
 subst e1; subst e2
 unfold Blk at hg hb
 rw [hb] at hg
 injection hg with hg
 injection hg with hg
 exact ⟨g, o, cur, rfl, hg ▸ hb', hx⟩
theorem z0u (s : Str) : (⟨(sb s).toArray⟩ : ByteArray) = s := by unfold sb; simp
theorem zk0 {w : World} {g o c : Nat} {s : Str} (h : SlU w (some ⟨g, o, none⟩) s.size c (sb s)) : (convert 77 9 (.slice (some ⟨g, o, none⟩) s.size c)).run Tryz.prog w = .ok (.string s) w := by
 rw [zzb h, z0u]
section
variable {P : Program} {w : World} {ops : Array Oper} {a : Act} {Q : Exit -> Act -> World -> Prop} {md : Region.Mode} {S : World -> Prop} {tg : Array Bool} {K : Nat -> Act -> World -> Prop}
def zcn (P : Program) (md : Region.Mode) (ops : Array Oper) (Q : Exit -> Act -> World -> Prop) (S : World -> Prop) (tg : Array Bool) (K : Nat -> Act -> World -> Prop) : Nat -> Array Bool -> Act -> World -> Prop
 | 0, listed, a, w => listed = tg /\ K 0 a w
 | fuel + 1, listed, a, w => (listed = tg /\ K (fuel + 1) a w) \/ ((Region.ready md ops listed = [] -> Q .normal a w) /\
   ∀ i ∈ Region.ready md ops listed, wpOp P ops Q i (fun a' w' => S w' /\ zcn P md ops Q S tg K fuel (listed.setIfInBounds i true) a' w') a w)
theorem zl2 (hK : ∀ fuel a w, K fuel a w -> wpAny P md ops Q fuel tg a w) : ∀ (fuel : Nat) (listed : Array Bool) (a : Act) (w : World), zcn P md ops Q S tg K fuel listed a w -> wpAny P md ops Q fuel listed a w
 | 0, _, _, _, ⟨e, h⟩ => e ▸ hK 0 _ _ h
 | _fuel + 1, _, _, _, .inl ⟨e, h⟩ => e ▸ hK _ _ _ h
 | fuel + 1, _, _, _, .inr h => ⟨h.1, fun i hi => wpOp_mono (fun a' w' h' => zl2 hK fuel _ a' w' h'.2) (h.2 i hi)⟩
theorem zxg {l tg : Array Bool} {i : Nat} (h : l.setIfInBounds i true = tg) (hi : l.getD i true = false) : tg.setIfInBounds i false = l := by
 subst h
 have hlt : i < l.size := by
  rcases Nat.lt_or_ge i l.size with h' | h'
  . exact h'
  . simp [Array.getElem?_eq_none h'] at hi
 apply Array.ext
 . simp
 . intro j h1 h2
   simp only [Array.size_setIfInBounds] at h1
   by_cases hj : i = j
   . subst hj
     simp []
     simp [h1] at hi
     exact hi
   . rw [Array.getElem_setIfInBounds (by simpa using h1), if_neg hj, Array.getElem_setIfInBounds h1, if_neg hj]
theorem zph {i : Nat} {oi : Oper} {v : Value} (hi : ops[i]? = some oi) (hsel : ∀ (j : Nat) (o : Oper) cs b, ops[j]? = some o -> o.op ≠ .select cs b)
   (hQ : ∀ c a w, Q (.panic c) (a.put oi.dst v) w -> Q (.panic c) a w) (hst : Region.ready md ops (tg.setIfInBounds i false) = [i]) :
   ∀ (fuel : Nat) (listed : Array Bool) (a : Act) (w : World),
     (∀ j oj, ops[j]? = some oj -> j ≠ i -> listed.getD j true = false -> (∀ e ∈ oj.after, Region.binds md e = true -> e.on ≠ i) -> oi.apart ops oj = true) ->
     i ∈ Region.ready md ops listed -> YieldsIf P ops S oi v a -> S w ->
     zcn P md ops Q S tg K fuel (listed.setIfInBounds i true) (a.put oi.dst v) w -> zcn P md ops Q S tg K (fuel + 1) listed a w := by
 have stop : ∀ (fuel : Nat) (listed : Array Bool) (a : Act) (w : World), i ∈ Region.ready md ops listed -> YieldsIf P ops S oi v a -> S w -> listed.setIfInBounds i true = tg -> zcn P md ops Q S tg K fuel (listed.setIfInBounds i true) (a.put oi.dst v) w -> zcn P md ops Q S tg K (fuel + 1) listed a w := by
  intro fuel listed a w hr hy hS he H
  refine .inr ⟨fun h => (by rw [h] at hr; cases hr), fun j hj => ?_⟩
  have hl := zxg he (mem_ready.1 hr).1
  rw [hl] at hst
  rw [hst] at hj
  obtain rfl := List.mem_singleton.1 hj
  exact hy.wpOp hi hS ⟨hS, H⟩
 intro fuel
 induction fuel with
 | zero =>
   intro listed a w _ hr hy hS H
   exact stop 0 listed a w hr hy hS H.1 H
 | succ fuel ih =>
   intro listed a w hfree hr hy hS H
   rcases H with ⟨he, H⟩ | H
   . exact stop _ listed a w hr hy hS he (.inl ⟨he, H⟩)
   . refine .inr ⟨fun h => (by rw [h] at hr; cases hr), fun j hj => ?_⟩
     by_cases hji : j = i
     . subst hji; exact hy.wpOp hi hS ⟨hS, .inr H⟩
     . have h1 := H.2 j (ready_mono hj hji)
       obtain ⟨hjun, oj, hoj, hall⟩ := mem_ready.1 hj
       have hnot : ∀ e ∈ oj.after, Region.binds md e = true -> e.on ≠ i := fun e he hb heq => by
        have h1 := hall e he hb
        have h0 := (mem_ready.1 hr).1
        rw [heq] at h1
        rcases Nat.lt_or_ge i listed.size with h' | h'
        . simp [h'] at h0 h1; rw [h0] at h1; cases h1
        . simp [Array.getElem?_eq_none h'] at h1
       have h2 := wpOp_putIf hoj (hfree j oj hoj hji hjun hnot) (fun cs b => hsel i oi cs b hi) (fun cs b => hsel j oj cs b hoj) hQ hy h1
       have hfree' : ∀ k ok, ops[k]? = some ok -> k ≠ i -> (listed.setIfInBounds j true).getD k true = false ->
          (∀ e ∈ ok.after, Region.binds md e = true -> e.on ≠ i) -> oi.apart ops ok = true := fun k ok hk hki hun hno => by
        refine hfree k ok hk hki ?_ hno
        by_cases hjk : j = k
        . subst hjk; exact hjun
        . rw [getD_set_ne true hjk] at hun; exact hun
       refine wpOp_mono (fun a' w' h3 => ⟨h3.2.1, ih (listed.setIfInBounds j true) a' w' hfree' (ready_mono hr (Ne.symm hji)) h3.1 h3.2.1 ?_⟩) h2
       rw [Array.setIfInBounds_comm _ _ hji]
       exact h3.2.2
theorem zaq (i : Nat) {oi : Oper} (v : Value) {fuel : Nat} {listed : Array Bool} (d : Option Tmp) (hi : ops[i]? = some oi) (hd : oi.dst = d) (hy : YieldsIf P ops S oi v a) (hS : S w) (h : zcn P md ops Q S tg K fuel (listed.setIfInBounds i true) (a.put d v) w)
   (hs : Region.noSelect ops = true := by kernel_rfl) (hf : Region.free md ops listed i = true := by kernel_rfl) (hr : (Region.ready md ops listed).contains i = true := by kernel_rfl) (hst : Region.ready md ops (tg.setIfInBounds i false) = [i] := by kernel_rfl) (hQ : ∀ c a w, Q (.panic c) (a.put d v) w -> Q (.panic c) a w := by exact fun _ _ _ h => h) : zcn P md ops Q S tg K (fuel + 1) listed a w := by
 subst hd
 exact zph hi (Region.noSelect_spec hs) hQ hst fuel listed a w (Region.free_spec hi hf) (by simpa using hr) hy hS h
theorem zed {i fuel : Nat} {listed : Array Bool} {o : Oper} (hr : Region.ready md ops listed = [i]) (ho : ops[i]? = some o) (hw : Region.wanted o (yielded ops a.tmps) = true)
   (h : o.wp P a w (fun a' w' => S w' /\ zcn P md ops Q S tg K fuel (listed.setIfInBounds i true) a' w') Q) : zcn P md ops Q S tg K (fuel + 1) listed a w := by
 refine .inr ⟨fun h => (by rw [h] at hr; cases hr), fun j hj => ?_⟩
 rw [hr] at hj
 obtain rfl := List.mem_singleton.1 hj
 unfold wpOp
 simp only [ho, hw, if_true]
 exact .inl h
theorem zt4 {i fuel : Nat} {listed : Array Bool} {o : Oper} {v : Value} {w' : World} (d : Option Tmp) (hr : Region.ready md ops listed = [i]) (ho : ops[i]? = some o) (hd : o.dst = d) (hw : Region.wanted o (yielded ops a.tmps) = true)
   (hv : (execOp a.eval o).run P w = .ok (.value v) w') (hS : S w') (h : zcn P md ops Q S tg K fuel (listed.setIfInBounds i true) (a.put d v) w') : zcn P md ops Q S tg K (fuel + 1) listed a w := by
 subst hd
 exact zed hr ho hw (zfe hv ⟨hS, h⟩)
theorem zgy {i fuel : Nat} {listed : Array Bool} {o : Oper} {f : FuncId} {args : Array Value} (d : Option Tmp) (hr : Region.ready md ops listed = [i]) (ho : ops[i]? = some o) (hd : o.dst = d) (hw : Region.wanted o (yielded ops a.tmps) = true)
   (hrun : (execOp a.eval o).run P w = .ok (.enter f args) w) {R : Ending -> World -> Prop} (hc : Calls P f args w R)
   (h : ∀ e w', R e w' -> ∃ v, e = .returned v /\ S w' /\ zcn P md ops Q S tg K fuel (listed.setIfInBounds i true) (a.put d v) w') : zcn P md ops Q S tg K (fuel + 1) listed a w := by
 subst hd
 refine zed hr ho hw ?_
 unfold Oper.wp
 rw [hrun]
 refine hc.mono fun e w' hh => ?_
 obtain ⟨v, rfl, h2⟩ := h e w' hh
 exact h2
theorem zj8 {fuel : Nat} (h : K fuel a w) : zcn P md ops Q S tg K fuel tg a w := by
 cases fuel with
 | zero => exact ⟨rfl, h⟩
 | succ n => exact .inl ⟨rfl, h⟩
theorem zgz {id : Nat} (S S2 : World -> Prop) (tg : Array Bool) (hm : P.follows .mixedOrders = true) (hS : S w.drew)
   (h : S w.drew -> zcn P .any ops Q S tg (fun fuel a w => wpAnyH P .any ops Q S2 fuel tg a w) ops.size (Array.replicate ops.size false) a w.drew) : (Code.region id ops true).wp P Q a w :=
 wp_region_any hm (zl2 (fun _ _ _ h => wpAny_of_held _ _ _ _ h) _ _ _ _ (h hS))
end
def zfo (blk gen kind n : Nat) (l : List UInt8) : List UInt8 := sealN (pad 128 (nhd blk gen kind n ++ l))
theorem zvq (blk gen kind n : Nat) (l : List UInt8) (h : l.length <= 116) : ∃ a b c d, zfo blk gen kind n l = [a, b, c, d] ++ le4 gen ++ [by8 blk, by8 (blk / 256), by8 kind, by8 n] ++ pad 116 l := by
 have h4 := zd7 (crcN ((pad 128 (nhd blk gen kind n ++ l)).drop 4))
 unfold zfo sealN
 obtain ⟨a, b, c, d, he⟩ : ∃ a b c d, le4 (crcN ((pad 128 (nhd blk gen kind n ++ l)).drop 4)) = [a, b, c, d] := ⟨_, _, _, _, rfl⟩
 refine ⟨a, b, c, d, ?_⟩
 rw [he]
 have : pad 128 (nhd blk gen kind n ++ l) = nhd blk gen kind n ++ pad 116 l := by
  unfold pad
  rw [List.append_assoc, List.length_append, zfm, show 128 - (12 + l.length) = 116 - l.length by omega]
 rw [this]
 unfold nhd
 simp
structure NHd (w : World) (g : Nat) (B : List UInt8) (blk gen kind n : Nat) : Prop where
 row : Blk w g 5 (bc B).toArray
 len : B.length = 128
 seal_ : sealedN B = true
 gen_ : get4 (B.drop 4) = gen
 b8 : B[8]? = some (by8 blk)
 b9 : B[9]? = some (by8 (blk / 256))
 b10 : B[10]? = some (by8 kind)
 b11 : B[11]? = some (by8 n)
 rest : B.drop 12 = B.drop 12
theorem zvr {w : World} {g blk gen kind n : Nat} {l : List UInt8} (hb : Blk w g 5 (bc (zfo blk gen kind n l)).toArray) (hl : l.length <= 116) (hg : gen < 4294967296) : NHd w g (zfo blk gen kind n l) blk gen kind n /\ (zfo blk gen kind n l).drop 12 = pad 116 l := by
 obtain ⟨a, b, c, d, e⟩ := zvq blk gen kind n l hl
 have hp := zb5 116 l hl
 refine ⟨⟨hb, ?_, ze0 _, ?_, ?_, ?_, ?_, ?_, rfl⟩, ?_⟩
 . rw [e]; simp only [List.length_append, List.length_cons, List.length_nil, zd7, hp]
 . rw [e]; exact zcw gen hg _
 . rw [e]; rfl
 . rw [e]; rfl
 . rw [e]; rfl
 . rw [e]; rfl
 . rw [e]; rfl
theorem NHd.cell {w : World} {g blk gen kind n : Nat} {B : List UInt8} (h : NHd w g B blk gen kind n) {j : Nat} {x : UInt8} (hx : B[j]? = some x) : w.cell? ⟨g, j, none⟩ = some (.int .u8 x.toNat) := by
 refine zab h.row j ?_
 rw [List.getElem?_toArray]
 unfold bc
 rw [List.getElem?_map, hx]
 rfl
theorem zdx (n : Nat) : (by8 n).toNat = n % 256 := by unfold by8; exact zb4 _ (by omega)
theorem zpi (a : Nat) (ha : a < 18446744073709551616) : (BitVec.ofInt 64 (a : Int)).toNat = a := by
 rw [BitVec.ofInt_natCast, BitVec.toNat_ofNat]; exact Nat.mod_eq_of_lt (by omega)
theorem zt5 (a b : Nat) (ha : a < 4294967296) (hb : b < 4294967296) : bits .or .i64 (a : Int) (b : Int) = ((a ||| b : Nat) : Int) := by
 have hx : a ||| b < 2 ^ 32 := Nat.or_lt_two_pow (by omega) (by omega)
 show IntKind.i64.wrap ((BitVec.ofInt 64 (a : Int) ||| BitVec.ofInt 64 (b : Int)).toNat : Int) = _
 rw [BitVec.toNat_or, zpi a (by omega), zpi b (by omega), IntKind.wrap_i64]
 omega
theorem zpj (blk : Nat) (h : blk < 65536) : bits .or .i64 (IntKind.i64.wrap ((blk : Int) % 256)) (IntKind.i64.wrap (IntKind.i64.wrap ((blk : Int) / 256 % 256) * 256)) = (blk : Int) := by
 have h1 : IntKind.i64.wrap ((blk : Int) % 256) = ((blk % 256 : Nat) : Int) := by rw [IntKind.wrap_i64]; omega
 have h2 : IntKind.i64.wrap (IntKind.i64.wrap ((blk : Int) / 256 % 256) * 256) = ((blk / 256 * 2 ^ 8 : Nat) : Int) := by rw [IntKind.wrap_i64, IntKind.wrap_i64]; omega
 rw [h1, h2, zt5 _ _ (by omega) (by omega), Nat.or_comm, Nat.mul_comm, <- Nat.two_pow_add_eq_or_of_lt (by omega) (blk / 256)]
 omega
theorem CuAt.below {w w' : World} {c g o n k : Nat} {bytes : List UInt8} (h : CuAt w c g o n k bytes) (hb : Below w.heap.size w w') : CuAt w' c g o n k bytes := ⟨h.1.below hb h.1.lt, h.2.below hb⟩
theorem SlU.adv {w : World} {g o n k c : Nat} {bytes : List UInt8} (h : SlU w (some ⟨g, o, none⟩) n c bytes) (hk : k <= n) : SlU w (some ⟨g, Proofs.YtemondlgcmpbbaaGreatDoor.adv o c k, none⟩) (n - k) (c - k) (bytes.drop k) := by
 have hn := h.2.1
 have hl := h.1
 unfold Proofs.YtemondlgcmpbbaaGreatDoor.adv
 by_cases hc : c = k
 . rw [if_pos hc]
   exact ⟨by rw [List.length_drop, hl], by omega, by have := h.2.2.1; omega, fun h0 => by omega⟩
 . rw [if_neg hc]
   have ht := h.tail k hk (by omega)
   have hA : (some (⟨g, o, none⟩ : Addr)).map (·.add k) = some ⟨g, o + k, none⟩ := by simp only [Option.map_some, Addr.add]; split <;> simp_all
   rwa [hA] at ht
theorem zvs {es : List (Str × Str)} {k : Nat} (h : k < es.length) : pcells (es.take (k + 1)) = pcells (es.take k) ++ [.string es[k].1, .string es[k].2] := by
 unfold pcells
 rw [List.take_succ_eq_append_getElem h, List.flatMap_append]
 rfl
theorem zk1 : ∀ (es : List (Str × Str)), 2 * es.length <= lsum es
 | [] => Nat.le_refl _
 | e :: es => by
   have := zk1 es
   unfold lsum at *
   have h2 : 2 <= lsz e := by unfold lsz; omega
   simp only [List.map_cons, List.sum_cons, List.length_cons]
   omega
def pbR (es : List (Str × Str)) (k : Nat) : List UInt8 := (es.drop k).flatMap pby ++ List.replicate (116 - lsum es) 0
theorem zxh (es : List (Str × Str)) : pad 116 (es.flatMap pby) = pbR es 0 := by unfold pad pbR; rw [zgx, List.drop_zero]
theorem zxi (es : List (Str × Str)) (k : Nat) (h : k < es.length) : pbR es k = [by8 es[k].1.size, by8 es[k].2.size] ++ (sb es[k].1 ++ (sb es[k].2 ++ pbR es (k + 1))) := by
 unfold pbR
 rw [List.drop_eq_getElem_cons h, List.flatMap_cons]
 unfold pby
 simp
theorem zzc (es : List (Str × Str)) (k : Nat) (hes : lsum es <= 116) : (pbR es k).length <= 116 := by
 unfold pbR
 rw [List.length_append, List.length_replicate, zgx]
 have : lsum (es.drop k) <= lsum es := by
  have := congrArg lsum (List.take_append_drop k es)
  unfold lsum at this ⊢
  rw [List.map_append, List.sum_append] at this
  omega
 omega
def z2d (es : List (Str × Str)) (blk gen g : Nat) (B : List UInt8) (w : World) (i : Value) (wr : World) : Prop :=
 ∃ (k o cap : Nat) (pv : Value), k <= es.length /\ i = .int .i64 k /\ NodeAt wr (w.heap.size + 1) blk gen false pv (.slice none 0 0) /\ wr.ownsRow w.heap.size 68 2 pv k (pcells (es.take k)) /\ CuAt wr (w.heap.size + 1 + 1) g o (pbR es k).length cap (pbR es k) /\ cap <= 128 /\ Blk wr g 5 (bc B).toArray /\ Below w.heap.size w wr
set_option maxHeartbeats 2000000 in
theorem zt6 (g blk gen : Nat) (es : List (Str × Str)) (w : World) (hb : Blk w g 5 (bc (zfo blk gen 1 es.length (es.flatMap pby))).toArray) (hes : lsum es <= 116) (hok : ∀ e ∈ es, zb1 e.1 /\ okVal e.2) (hbk : blk < 65536) (hgen : gen < 4294967296) :
   Calls Tryz.prog 173 #[.slice (some ⟨g, 0, none⟩) 128 128, .agg #[.int .i64 blk, .int .u32 gen]] w fun e w' => ∃ b pv, e = .returned (.tuple #[P b, .bool true]) /\ w.heap.size <= b /\ NodeAt w' b blk gen false pv (.slice none 0 0) /\ w'.ownsRow w.heap.size 68 2 pv es.length (pcells es) /\ Below w.heap.size w w' := by
 obtain ⟨hh, hrest⟩ := zvr hb (by rw [zgx]; exact hes) hgen
 obtain ⟨B, hB⟩ : ∃ B, B = zfo blk gen 1 es.length (es.flatMap pby) := ⟨_, rfl⟩
 rw [<- hB] at hh hrest
 clear hB hb
 have hor := zpj blk hbk
 have wb1 : IntKind.i64.wrap ((blk : Int) % 256) = (blk : Int) % 256 := by rw [IntKind.wrap_i64]; omega
 have wb2 : IntKind.i64.wrap ((blk : Int) / 256 % 256) = (blk : Int) / 256 % 256 := by rw [IntKind.wrap_i64]; omega
 have wb3 : IntKind.i64.wrap ((blk : Int) / 256 % 256 * 256) = (blk : Int) / 256 % 256 * 256 := by rw [IntKind.wrap_i64]; omega
 rw [wb1, wb2, wb3] at hor
 have c8 := hh.cell hh.b8
 have c9 := hh.cell hh.b9
 have c10 := hh.cell hh.b10
 have c11 := hh.cell hh.b11
 rw [zdx] at c8 c9 c10 c11
 have hln : es.length < 256 := by
  have := zk1 es
  omega
 rw [show 1 % 256 = 1 from rfl] at c10
 rw [Nat.mod_eq_of_lt hln] at c11
 have c8' := fun o => zai o c8
 have c9' := fun o => zai o c9
 have c10' := fun o => zai o c10
 have c11' := fun o => zai o c11
 have hs := SlU.whole hh.row hh.len (by omega)
 have hbox : Below w.heap.size w (w.alloc (.cells #[.int .i64 blk, .int .u32 gen] 134)) := (Below.refl _ _).alloc (Nat.le_refl _) _
 have HSL := zaa (fun k => zgd (some ⟨g, 0, none⟩) 128 128 B ((w.alloc (.cells #[.int .i64 blk, .int .u32 gen] 134)).drewN k) (hs.below (zad hbox k)) (by omega) (by omega))
 rw [hh.seal_] at HSL
 have ht := hs.tail 4 (by omega) (by omega)
 have hA : (some (⟨g, 0, none⟩ : Addr)).map (·.add 4) = some ⟨g, 4, none⟩ := rfl
 rw [hA] at ht
 have HG := zaa (fun k => zha (some ⟨g, 4, none⟩) 124 124 (B.drop 4) ((w.alloc (.cells #[.int .i64 blk, .int .u32 gen] 134)).drewN k) (ht.below (zad hbox k)) (by omega) (by omega))
 rw [hh.gen_] at HG
 have HH := zaa hh
 have HRE := zaa hrest
 have HES := zaa hes
 have HOK := zaa hok
 have HS := zaa hs
 clear hh hrest hes hok hs hbox ht hA
 go_enter Tryz.func173, Tryz.ntmps173
 go_wp2
 go_quiet (first | ((go_at_call 194; exact zep (HSL.out _))) | ((go_at_call 195; exact zep (HG.out _))))
 go_upto_region 5 with fail
 obtain ⟨W1, hW1⟩ : ∃ W1, W1 = (((w.alloc (.cells #[.int .i64 blk, .int .u32 gen] 134)).drewN nq).alloc (.cells #[.int .i64 blk, .int .u32 gen, .bool false, .slice none 0 0, .slice none 0 0] 137)).alloc (.cells #[.slice (some ⟨g, 12, none⟩) 116 116, .bool false] 288) := ⟨_, rfl⟩
 rw [<- hW1]
 have hbel : Below w.heap.size w W1 := by
  rw [hW1]
  exact ((zad ((Below.refl _ _).alloc (Nat.le_refl _) _) nq).alloc (by simp) _).alloc (by simp; omega) _
 have hnode : NodeAt W1 (w.heap.size + 1) blk gen false (.slice none 0 0) (.slice none 0 0) := by
  rw [hW1]
  have := (Blk.new ((w.alloc (.cells #[.int .i64 blk, .int .u32 gen] 134)).drewN nq) 137 #[.int .i64 blk, .int .u32 gen, .bool false, .slice none 0 0, .slice none 0 0]).alloc (.cells #[.slice (some ⟨g, 12, none⟩) 116 116, .bool false] 288)
  unfold NodeAt
  simpa using this
 have hcur : Blk W1 (w.heap.size + 1 + 1) 288 #[.slice (some ⟨g, 12, none⟩) 116 116, .bool false] := by
  rw [hW1]
  have := Blk.new (((w.alloc (.cells #[.int .i64 blk, .int .u32 gen] 134)).drewN nq).alloc (.cells #[.int .i64 blk, .int .u32 gen, .bool false, .slice none 0 0, .slice none 0 0] 137)) 288 #[.slice (some ⟨g, 12, none⟩) 116 116, .bool false]
  simpa using this
 have hrow := HH.out.row.below hbel HH.out.row.lt
 have hsl : SlU W1 (some ⟨g, 12, none⟩) 116 116 (pbR es 0) := by
  have := (HS.out.tail 12 (by omega) (by omega)).below hbel
  have hA : (some (⟨g, 0, none⟩ : Addr)).map (·.add 12) = some ⟨g, 12, none⟩ := rfl
  rw [hA, HRE.out, zxh] at this
  exact this
 have d11 : W1.cell? ⟨g, 11, none⟩ = some (.int .u8 es.length) := (hbel.cell HH.out.row.lt).trans c11
 have hl0 : (pbR es 0).length = 116 := hsl.1
 have HB1 := zaa hbel
 have HN1 := zaa hnode
 have HCU := zaa (show CuAt W1 (w.heap.size + 1 + 1) g 12 (pbR es 0).length 116 (pbR es 0) from by rw [hl0]; exact ⟨hcur, hsl⟩)
 have HR1 := zaa hrow
 obtain ⟨i0, hi0, hz0, hz1, hz2⟩ := info_parts zdh
 have I0 := zaa hi0
 have Z0 := zaa hz0
 have Z1 := zaa hz1
 have Z2 := zaa hz2
 clear hW1 hbel hnode hcur hrow hsl hl0 c8 c9 c10 c11 c8' c9' c10' c11' hor wb1 wb2 wb3 HS HSL HG hi0 hz0 hz1 hz2 hbk hgen
 go_wp2
 go_loopw [71] (fun i wr => z2d es blk gen g B w i wr) (fun i _ => es.length - (intOf i).toNat)
 case atStart => exact ⟨0, 12, 116, _, Nat.zero_le _, rfl, HN1.out, World.ownsRow_nil _ _ _ _, HCU.out, by omega, HR1.out, HB1.out⟩
 case round =>
  obtain ⟨k, o, cap, pv, hk, rfl, hnd, hown, hcu, hcap, hrow, hbr⟩ := hrel
  by_cases hlt : k < es.length
  . have k1 : (k : Int) < (es.length : Int) := by omega
    have hlen := zzc es k HES.out
    have hst := zxi es k hlt
    have hx := HOK.out es[k] (List.getElem_mem hlt)
    have hpc : pcells (es.take (k + 1)) = pcells (es.take k) ++ [.string es[k].1, .string es[k].2] := zvs hlt
    obtain ⟨x, hxe⟩ : ∃ x, x = es[k] := ⟨_, rfl⟩
    rw [<- hxe] at hst hx hpc
    obtain ⟨⟨hx1, hx8⟩, hx12⟩ := hx
    unfold okVal at hx12
    have hl2 : (pbR es k).length = 2 + (x.1.size + (x.2.size + (pbR es (k + 1)).length)) := by rw [hst]; simp only [List.length_append, List.length_cons, List.length_nil, zds]
    have d10 : wr.cell? ⟨g, 10, none⟩ = some (.int .u8 1) := by
     have := (HH.out.cell HH.out.b10)
     rw [zdx] at this
     exact (hbr.cell HH.out.row.lt).trans this
    have hcu0 : CuAt wr (w.heap.size + 1 + 1) g o (2 + (x.1.size + (x.2.size + (pbR es (k + 1)).length))) cap ([by8 x.1.size, by8 x.2.size] ++ (sb x.1 ++ (sb x.2 ++ pbR es (k + 1)))) := by
     rw [hl2, hst] at hcu
     exact hcu
    rw [hl2] at hlen
    have sbl1 := zds x.1
    have sbl2 := zds x.2
    obtain ⟨R, hR⟩ : ∃ R, R = pbR es (k + 1) := ⟨_, rfl⟩
    rw [<- hR] at hcu0 hlen
    have r1 : (1 : Int) <= (x.1.size : Nat) := by omega
    have r2 : ((x.1.size : Nat) : Int) <= 8 := by omega
    have r3 : ((x.2.size : Nat) : Int) <= 12 := by omega
    have HT := zaa (zfn (w.heap.size + 1 + 1) g o cap 2 [by8 x.1.size, by8 x.2.size] (sb x.1 ++ (sb x.2 ++ R)) wr rfl (by rw [List.length_append, List.length_append, sbl1, sbl2]; exact hcu0) (by rw [List.length_append, List.length_append, sbl1, sbl2]; omega) (by omega))
    obtain ⟨o2, ho2⟩ : ∃ o2, o2 = adv o cap 2 := ⟨_, rfl⟩
    rw [<- ho2] at HT
    have hcz := hcu.1.lt
    have hcn : ∀ y cs, Blk wr y 68 cs -> ¬ y = w.heap.size + 1 + 1 := fun y cs hy e => Blk.ne_ hy hcu.1 (by decide) e
    have hgn : ¬ g = w.heap.size + 1 + 1 := fun e => Blk.ne_ hrow hcu.1 (by decide) e
    have HCN := zaa hcn
    have HCB := zaa hcu.1
    have HGN := zaa hgn
    have HPC := zaa hpc
    have HX := zaa hxe
    have HR := zaa hR
    have HOWN := zaa hown
    have HND := zaa hnd
    have HROW := zaa hrow
    have HBR := zaa hbr
    have HSB := zaa (And.intro sbl1 sbl2)
    clear hpc hst hxe hown hnd hrow hbr hcu ho2 hcn hgn hcu0 hl2 hR sbl1 sbl2
    go_wp2_with (first
     | (go_at_call 196; go_loud (
        refine HT.out.mono ?_; rintro e w2 ⟨rfl, hs2, hc2, ho2⟩
        obtain ⟨_, _, hA0, _, hx0, l0⟩ := hs2.at_ (j := 0) (by omega)
        obtain ⟨_, _, hA1, _, hx1', l1⟩ := hs2.at_ (j := 1) (by omega)
        injection hA0 with hA0
        injection hA0 with e1 e2
        subst e1; subst e2
        injection hA1 with hA1
        injection hA1 with e1 e2
        subst e1; subst e2
        injection hx0 with hx0
        subst hx0
        injection hx1' with hx1'
        subst hx1'
        rw [zdx, Nat.mod_eq_of_lt (by omega)] at l0 l1
        rw [Nat.add_zero] at l0
        have HC2 := zaa hc2
        have HO2 := zaa ho2
        clear hs2 hc2 ho2)))
    go_wp2
    go_quiet (fail)
    go_wp2_with fail
    obtain ⟨W2, hW2⟩ : ∃ W2, W2 = (w2.drewN nq).drew := ⟨_, rfl⟩
    have hO2 : Only (· = w.heap.size + 1 + 1) wr W2 := by rw [hW2]; exact (HO2.out.drewN nq).drew
    have hC2 := HC2.out.below (show Below w2.heap.size w2 W2 by rw [hW2]; exact (zad (Below.refl _ _) nq).drew)
    rw [List.length_append, List.length_append, HSB.out.1, HSB.out.2] at hC2
    have hS0 : W2.cell? ⟨w.heap.size + 1, 3, none⟩ = some pv /\ Blk W2 g 5 (bc B).toArray := ⟨zab (HND.out.only hO2 (by omega)) 3 rfl, HROW.out.only hO2 HGN.out⟩
    have hz2 : wr.heap.size <= W2.heap.size := hO2.size
    have HO2' := zaa hO2
    have HC2' := zaa hC2
    clear hO2 hC2
    refine zgz (fun w' => w'.cell? ⟨w.heap.size + 1, 3, none⟩ = some pv /\ Blk w' g 5 (bc B).toArray) (fun _ => True) #[true, true, true, true, true, true, true, true, true, true, true, true, true, true, true, true, false, false, false] (by kernel_rfl) (by rw [<- hW2]; exact hS0) ?_
    rw [<- hW2]
    intro _
    refine zaq 0 (.pointer (some ⟨w.heap.size + 1, 0, none⟩)) (some 87) rfl rfl (.inl ⟨rfl, fun w' hSw => by go_simp⟩) hS0 ?_
    simp only [Act.put, n1, n2, n3]
    refine zaq 1 (.pointer (some ⟨w.heap.size + 1, 0, none⟩)) (some 88) rfl rfl (.inl ⟨rfl, fun w' hSw => by go_simp⟩) hS0 ?_
    simp only [Act.put, n1, n2, n3]
    refine zaq 2 (.pointer (some ⟨w.heap.size + 1, 0, none⟩)) (some 89) rfl rfl (.inl ⟨rfl, fun w' hSw => by go_simp⟩) hS0 ?_
    simp only [Act.put, n1, n2, n3]
    refine zaq 3 (.pointer (some ⟨w.heap.size + 1, 3, none⟩)) (some 90) rfl rfl (.inl ⟨rfl, fun w' hSw => by go_simp⟩) hS0 ?_
    simp only [Act.put, n1, n2, n3]
    refine zaq 4 pv (some 91) rfl rfl (.inl ⟨rfl, fun w' hSw => by have s1 := hSw.1; clear hSw; go_simp⟩) hS0 ?_
    simp only [Act.put, n1, n2, n3]
    refine zaq 5 (.pointer (some ⟨w.heap.size + 1 + 1, 0, none⟩)) (some 92) rfl rfl (.inl ⟨rfl, fun w' hSw => by go_simp⟩) hS0 ?_
    simp only [Act.put, n1, n2, n3]
    refine zaq 6 (.int .i64 x.1.size) (some 93) rfl rfl (.inl ⟨rfl, fun w' hSw => by go_simp⟩) hS0 ?_
    simp only [Act.put, n1, n2, n3]
    refine zaq 9 (.pointer (some ⟨w.heap.size + 1 + 1, 0, none⟩)) (some 96) rfl rfl (.inl ⟨rfl, fun w' hSw => by go_simp⟩) hS0 ?_
    simp only [Act.put, n1, n2, n3]
    refine zaq 10 (.int .i64 x.2.size) (some 97) rfl rfl (.inl ⟨rfl, fun w' hSw => by go_simp⟩) hS0 ?_
    simp only [Act.put, n1, n2, n3]
    have HT3 := zfn (w.heap.size + 1 + 1) g o2 (cap - 2) x.1.size (sb x.1) (sb x.2 ++ R) W2 HSB.out.1 (by rw [List.length_append, HSB.out.2]; exact HC2'.out) (by rw [List.length_append, HSB.out.2]; omega) (by omega)
    refine zgy (i := 7) (f := 196) (some 94) (by kernel_rfl) rfl rfl rfl (by first | (go_simp; done) | (go_simp; rfl)) (HT3) ?_
    rintro e w3 ⟨rfl, hs3, hc3, ho3⟩
    have hS3 : w3.cell? ⟨w.heap.size + 1, 3, none⟩ = some pv /\ Blk w3 g 5 (bc B).toArray := ⟨(ho3.cell (p := ⟨w.heap.size + 1, 3, none⟩) (show w.heap.size + 1 < W2.heap.size by omega) (show ¬ (w.heap.size + 1 = w.heap.size + 1 + 1) by omega)).trans hS0.1, hS0.2.only ho3 HGN.out⟩
    refine ⟨_, rfl, hS3, ?_⟩
    simp only [Act.put, n1, n2, n3]
    have hz3 : W2.heap.size <= w3.heap.size := ho3.size
    refine zaq 8 (.string x.1) (some 95) rfl rfl (.inl ⟨rfl, fun w' hSw => by have CV := zk0 (hs3.at_blk hS3.2 hSw.2); clear hSw; go_simp⟩) hS3 ?_
    simp only [Act.put, n1, n2, n3]
    rw [List.length_append, HSB.out.2] at hc3
    have HT4 := zfn (w.heap.size + 1 + 1) g (adv o2 (cap - 2) x.1.size) (cap - 2 - x.1.size) x.2.size (sb x.2) R w3 HSB.out.2 hc3 (by omega) (by omega)
    refine zgy (i := 11) (f := 196) (some 98) (by kernel_rfl) rfl rfl rfl (by first | (go_simp; done) | (go_simp; rfl)) (HT4) ?_
    rintro e w4 ⟨rfl, hs4, hc4, ho4⟩
    have hS4 : w4.cell? ⟨w.heap.size + 1, 3, none⟩ = some pv /\ Blk w4 g 5 (bc B).toArray := ⟨(ho4.cell (p := ⟨w.heap.size + 1, 3, none⟩) (show w.heap.size + 1 < w3.heap.size by omega) (show ¬ (w.heap.size + 1 = w.heap.size + 1 + 1) by omega)).trans hS3.1, hS3.2.only ho4 HGN.out⟩
    refine ⟨_, rfl, hS4, ?_⟩
    simp only [Act.put, n1, n2, n3]
    have hz4 : w3.heap.size <= w4.heap.size := ho4.size
    refine zaq 12 (.string x.2) (some 99) rfl rfl (.inl ⟨rfl, fun w' hSw => by have CV := zk0 (hs4.at_blk hS4.2 hSw.2); clear hSw; go_simp⟩) hS4 ?_
    simp only [Act.put, n1, n2, n3]
    refine zaq 13 (.agg #[.string x.1, .string x.2]) (some 100) rfl rfl (.inl ⟨rfl, fun w' hSw => by go_simp⟩) hS4 ?_
    simp only [Act.put, n1, n2, n3]
    refine zed (i := 14) (by kernel_rfl) rfl rfl ?_
    refine zim 39 68 (.tmp 100) rfl [.string x.1, .string x.2] rfl i0 _ Tryz.underlying39 I0.out Z0.out Z1.out (by simp) (by simp) ?_
    have hS5 : (w4.alloc (.cells #[.string x.1, .string x.2] 68)).cell? ⟨w.heap.size + 1, 3, none⟩ = some pv /\ Blk (w4.alloc (.cells #[.string x.1, .string x.2] 68)) g 5 (bc B).toArray := ⟨zai _ hS4.1, hS4.2.alloc _⟩
    refine ⟨hS5, ?_⟩
    simp only [Act.put, n1]
    refine zed (i := 15) (by kernel_rfl) rfl rfl ?_
    have hOr : Only (· = w.heap.size + 1 + 1) wr w4 := (HO2'.out.trans ho3).trans ho4
    refine zdq _ (.tmp 91) (.tmp 101) 39 rfl w.heap.size 68 i0 _ 2 32 Tryz.underlying39 I0.out Z0.out Z1.out Z2.out rfl (by decide) pv k (pcells (es.take k)) rfl ((za0 HOWN.out hOr HCN.out).alloc _) (w4.heap.size + 1) (some ⟨w4.heap.size, 0, none⟩) 1 1 [.string x.1, .string x.2] rfl ⟨rfl, fun _ => ⟨_, rfl, Nat.lt_succ_self _, fun j u hu => by rw [Addr.add_lit]; exact (Blk.new w4 68 #[.string x.1, .string x.2]).range (cur := [.string x.1, .string x.2]) (o := 0) rfl j u hu⟩⟩ (by intro u hu; simp only [List.mem_cons, List.not_mem_nil, or_false] at hu; rcases hu with rfl | rfl <;> rfl) (by unfold maxLen; omega) (by omega) (by simp only [World.size_alloc]; omega) ?_
    intro v5 w5 hown5 hgr5 hat5
    obtain ⟨A5, c5, hv5, _⟩ := zan hown5
    subst hv5
    have hnb : ∀ {y : Nat} {T : TypeId} {cs : Array Value}, Blk (w4.alloc (.cells #[.string x.1, .string x.2] 68)) y T cs -> T ≠ 68 -> ¬ pv.ownBlock = some y := fun hy hT e => zag ((za0 HOWN.out hOr HCN.out).alloc _) hy hT.symm e
    have hNd4 : NodeAt (w4.alloc (.cells #[.string x.1, .string x.2] 68)) (w.heap.size + 1) blk gen false pv (.slice none 0 0) := (HND.out.only hOr (by omega)).alloc _
    have hNd5 : NodeAt w5 (w.heap.size + 1) blk gen false pv (.slice none 0 0) := hNd4.grown hgr5 (fun e => hnb hNd4 (by decide) e.symm)
    have hB5 : Blk w5 g 5 (bc B).toArray := hS5.2.grown hgr5 (fun e => hnb hS5.2 (by decide) e.symm)
    have hS6 : w5.cell? ⟨w.heap.size + 1, 3, none⟩ = some pv /\ Blk w5 g 5 (bc B).toArray := ⟨zab hNd5 3 rfl, hB5⟩
    refine ⟨hS6, ?_⟩
    simp only [Act.put]
    refine zj8 ?_
    refine zac 16 (.pointer (some ⟨w.heap.size + 1, 0, none⟩)) (some 103) rfl rfl (.inl ⟨rfl, fun w' hSw => by go_simp⟩) trivial ?_
    simp only [Act.put, n1, n2, n3]
    refine zac 17 (.pointer (some ⟨w.heap.size + 1, 3, none⟩)) (some 104) rfl rfl (.inl ⟨rfl, fun w' hSw => by go_simp⟩) trivial ?_
    simp only [Act.put, n1, n2, n3]
    refine zaw (i := 18) (by kernel_rfl) rfl rfl ?_
    have f3 : w5.frozen? ⟨w.heap.size + 1, 3, none⟩ = false := hNd5.frozen 3
    have f3' : w5.cell? ⟨w.heap.size + 1, 3, none⟩ = some pv := hS6.1
    go_simp
    refine wpAnyH_done (by kernel_rfl) ?_ _
    go_wp2
    go_roundw
    case rel =>
     have hcu6 : Blk w5 (w.heap.size + 1 + 1) 288 _ := (hc4.1.alloc _).grown hgr5 (fun e => hnb (hc4.1.alloc _) (by decide) e.symm)
     have hset : Only (· = w.heap.size + 1) w5 (w5.setCell ⟨w.heap.size + 1, 3, none⟩ (.slice A5 (k + 1) c5)) := Only.set1 _ _ _ _
     have hB6 := hB5.only hset (fun e => Blk.ne_ hB5 hNd5 (by decide) e)
     have hz5 := hgr5.size
     simp only [World.size_alloc] at hz5
     have hbel : Below w.heap.size w w5 := ((HBR.out.trans (hOr.to_below (by omega) (fun x hx => by omega))).alloc (by omega) _).grown hgr5 (by simp only [World.size_alloc]; omega) (fun q hq => (zdv HOWN.out hq).1)
     refine ⟨k + 1, adv (adv o2 (cap - 2) x.1.size) (cap - 2 - x.1.size) x.2.size, cap - 2 - x.1.size - x.2.size, _, by omega, by go_num, hNd5.set_ 3 _, ?_, ?_, by omega, hB6, hbel.setCell (by show w.heap.size <= w.heap.size + 1; omega) _⟩
     . rw [HPC.out]
       exact za0 hown5 hset (fun y cs hy e => Blk.ne_ hy hNd5 (by decide) e)
     . rw [<- HR.out]
       exact ⟨hcu6.only hset (by omega), hc4.2.at_blk hS4.2 hB6⟩
    case measure => simp [intOf]; omega
  . obtain rfl : k = es.length := by omega
    have hR0 : pbR es es.length = List.replicate (116 - lsum es) 0 := by unfold pbR; rw [List.drop_length]; rfl
    rw [hR0] at hcu
    rw [List.length_replicate] at hcu
    obtain ⟨N, hN⟩ : ∃ N, N = 116 - lsum es := ⟨_, rfl⟩
    rw [<- hN] at hcu
    have hN2 : N <= 116 := by omega
    have e0 := zab hcu.1 0 rfl
    have e1 := zab hcu.1 1 rfl
    have hz : ∀ j, j < N -> wr.cell? ⟨g, o + j, none⟩ = some (.int .u8 0) := by
     intro j hj
     obtain ⟨g', o', hA, x, hx, hc⟩ := hcu.2.at_ hj
     injection hA with hA
     injection hA with h1 h2
     subst h1; subst h2
     rw [List.getElem?_replicate, if_pos hj] at hx
     injection hx with hx
     subst hx
     exact hc
    have d10 : wr.cell? ⟨g, 10, none⟩ = some (.int .u8 1) := by
     have := (HH.out.cell HH.out.b10)
     rw [zdx] at this
     exact (hbr.cell HH.out.row.lt).trans this
    have LF := zaa (fun k => zdn (w.heap.size + 1) blk gen 0 false pv none (wr.drewN k) (by exact hnd.below (zad (Below.refl _ _) k) hnd.lt))
    have HZ := zaa hz
    have HOWN := zaa hown
    have HND := zaa hnd
    have HCU := zaa hcu
    have HBR := zaa hbr
    have kk : ¬ (es.length : Int) < (es.length : Int) := by omega
    have hor0 : bits .or .i64 0 0 = 0 := by decide
    have htk : es.take es.length = es := List.take_length
    rw [htk] at HOWN
    clear hz hown hnd hcu hbr hR0 hN htk hrow hlt
    go_wp2
    go_loop [14, 161] (fun r i => ∃ j : Nat, j <= N /\ i = .int .i64 j /\ r = .int .i64 0) (fun _ i => N - (intOf i).toNat)
    case atStart => exact ⟨0, Nat.zero_le _, rfl, rfl⟩
    case round =>
     obtain ⟨j, hj, rfl, rfl⟩ := hrel
     by_cases hlt : j < N
     . have zj := HZ.out j hlt
       have j1 : (j : Int) < (N : Int) := by omega
       have j0 : (0 : Int) <= (j : Int) := by omega
       go_wp2
       go_round
       case rel => exact ⟨j + 1, by omega, by go_num, rfl⟩
       case measure => simp [intOf]; omega
     . have j1 : ¬ (j : Int) < (N : Int) := by omega
       go_wp2
       go_quiet ((go_at_call 81; exact zco (LF.out _)))
       go_wp2
       go_ret2
       refine ⟨w.heap.size + 1, pv, rfl, by omega, HND.out.below (zad (Below.refl _ _) _) HND.out.lt, zbx HOWN.out (zad (Below.refl _ _) _), zad HBR.out _⟩
end Go.Proofs.YtemondlgcmpbbaaGreatDoor
