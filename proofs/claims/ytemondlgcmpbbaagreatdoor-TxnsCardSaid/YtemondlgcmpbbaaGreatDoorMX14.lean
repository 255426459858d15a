/- TreeD TreeE TreeF: merged. -/
import Derived.Test.YtemondlgcmpbbaaGreatDoorMX13
namespace Go.Proofs.YtemondlgcmpbbaaGreatDoor
set_option maxRecDepth 100000
def Fit : (h : Nat) -> Tr h -> Prop
 | 0, n => zdd (Nd.es n) <= 116
 | h + 1, n => ksum (Nd.es n) <= 116 /\ ∀ e ∈ Nd.es n, Fit h e.2
def Reg : (h : Nat) -> Tr h -> Prop
 | 0, n => 2 <= (Nd.es n).length
 | h + 1, n => 3 <= (Nd.es n).length /\ ∀ e ∈ Nd.es n, Reg h e.2
def Rtl : (h : Nat) -> Tr h -> Prop
 | 0, n => 1 <= (Nd.es n).length
 | h + 1, n => 2 <= (Nd.es n).length /\ ∀ e ∈ Nd.es n, Reg h e.2
def Top : (h : Nat) -> Tr h -> Prop
 | 0, n => Rtl 0 n
 | h + 1, n => Rtl (h + 1) n \/ ∃ e, Nd.es n = [e] /\ Top h e.2
def Semi : (h : Nat) -> Tr h -> Prop
 | 0, n => zdd (Nd.es n) <= 138
 | h + 1, n => ksum (Nd.es n) <= 138 /\ ∀ e ∈ Nd.es n, Fit h e.2
theorem Rtl.top : ∀ (h : Nat) (n : Tr h), Rtl h n -> Top h n
 | 0, _, hn => hn
 | _ + 1, _, hn => .inl hn
theorem Reg.rtl : ∀ (h : Nat) (n : Tr h), Reg h n -> Rtl h n
 | 0, _, hn => by unfold Reg at hn; unfold Rtl; omega
 | _ + 1, _, hn => ⟨by have := hn.1; omega, hn.2⟩
theorem Fit.size : ∀ (h : Nat) (n : Tr h), Fit h n -> Tr.size h n <= 116
 | 0, _, hn => hn
 | _ + 1, _, hn => hn.1
theorem Semi.size : ∀ (h : Nat) (n : Tr h), Semi h n -> Tr.size h n <= 138
 | 0, _, hn => hn
 | _ + 1, _, hn => hn.1
theorem Semi.fit : ∀ (h : Nat) (n : Tr h), Semi h n -> Tr.size h n <= 116 -> Fit h n
 | 0, _, _, hs => hs
 | _ + 1, _, hn, hs => ⟨hs, hn.2⟩
theorem ze8 {K : Type} {l : List (Str × K)} (h : ∀ e ∈ l, ksz e <= 15) : ksum l <= 15 * l.length := by
 have := zq0 (l := l.map ksz) (m := 15) (by intro x hx; obtain ⟨e, he, rfl⟩ := List.mem_map.1 hx; exact h e he)
 rwa [List.length_map] at this
theorem zht {l : List (Str × Str)} (h : ∀ e ∈ l, lsz e <= 22) : zdd l <= 22 * l.length := by
 have := zq0 (l := l.map lsz) (m := 22) (by intro x hx; obtain ⟨e, he, rfl⟩ := List.mem_map.1 hx; exact h e he)
 rwa [List.length_map] at this
theorem znk : ∀ (h : Nat) (lo : Str) (hi : Option Str) (n : Tr h), WF h lo hi n -> Rtl h n -> 45 <= Tr.size h n -> Reg h n
 | 0, _, _, n, hw, _, hs => by
   have := zht (zf7 hw)
   have hs' : 45 <= zdd (Nd.es n) := hs
   unfold Reg
   omega
 | h + 1, lo, hi, n, hw, hr, hs => by
   have := ze8 (zdp (show Chain (WF h) lo hi (Nd.es n) from hw))
   have hs' : 45 <= ksum (Nd.es n) := hs
   exact ⟨by omega, hr.2⟩
def Below1 : (h : Nat) -> Tr h -> Prop
 | 0, _ => True
 | h + 1, n => ∀ e ∈ Nd.es n, Fit h e.2
theorem Below1.any : ∀ (h : Nat) (c : Tr h), Below1 h c -> ∀ h' (e : h = h' + 1), ∀ x ∈ Nd.es (e ▸ c : Tr (h' + 1)), Fit h' x.2
 | 0, _, _, _, e => by cases e
 | h + 1, c, hb, h', e => by
   cases e
   exact hb
theorem Fit.below : ∀ (h : Nat) (c : Tr h), Fit h c -> Below1 h c
 | 0, _, _ => trivial
 | _ + 1, _, hc => hc.2
theorem Semi.below : ∀ (h : Nat) (c : Tr h), Semi h c -> Below1 h c
 | 0, _, _ => trivial
 | _ + 1, _, hc => hc.2
theorem Below1.fit : ∀ (h : Nat) (n : Tr h), Below1 h n -> Tr.size h n <= 116 -> Fit h n
 | 0, _, _, hs => hs
 | _ + 1, _, hn, hs => ⟨hs, hn⟩
theorem zlu : ∀ (h : Nat) (k2 : Str) (hi : Option Str) (c d : Tr h), WF h k2 hi d -> (Rtl h c /\ Reg h d) \/ (Reg h c /\ Rtl h d) -> Reg h (Tr.join h c k2 d)
 | 0, _, _, c, d, _, hr => by
   show 2 <= (Nd.es c ++ Nd.es d).length
   rw [List.length_append]
   rcases hr with ⟨h1, h2⟩ | ⟨h1, h2⟩ <;> simp only [Rtl, Reg] at h1 h2 <;> omega
 | h + 1, k2, hi, c, d, hw, hr => by
   show 3 <= (Nd.es c ++ rekey k2 (Nd.es d)).length /\ ∀ e ∈ Nd.es c ++ rekey k2 (Nd.es d), Reg h e.2
   rw [zi8 (show Chain (WF h) k2 hi (Nd.es d) from hw), List.length_append]
   have hall : ∀ e ∈ Nd.es c ++ Nd.es d, Reg h e.2 := by
    intro e he
    rcases List.mem_append.1 he with he | he
    . rcases hr with ⟨h1, _⟩ | ⟨h1, _⟩
      . exact h1.2 e he
      . exact h1.2 e he
    . rcases hr with ⟨_, h2⟩ | ⟨_, h2⟩
      . exact h2.2 e he
      . exact h2.2 e he
   refine ⟨?_, hall⟩
   rcases hr with ⟨h1, h2⟩ | ⟨h1, h2⟩
   . have := h1.1; have := h2.1; omega
   . have := h1.1; have := h2.1; omega
def AllOK (h : Nat) (es : List (Str × Tr h)) : Prop := ∀ e ∈ es, Fit h e.2 /\ Reg h e.2
theorem AllOK.app {h : Nat} {a b : List (Str × Tr h)} (ha : AllOK h a) (hb : AllOK h b) : AllOK h (a ++ b) := fun e he => by
 rcases List.mem_append.1 he with he | he
 . exact ha e he
 . exact hb e he
/-! ### put -/
theorem zgl (key v : Str) (es : List (Str × Str)) (hr : zcs es) : (zb7 key v es).length = es.length + (if there key es then 0 else 1) /\ zdd (zb7 key v es) <= zdd es + (2 + key.size + v.size) := by
 obtain ⟨a, b, c, he, _, ga, gc, gb⟩ := zc6 key es hr
 rw [he] at gb ⊢
 have hb : b = [] \/ ∃ u, b = [(key, u)] := gb.imp (fun h => h.1) (fun ⟨u, h⟩ => ⟨u, h.1⟩)
 rw [zgi key v a c b ga gc hb]
 rcases gb with ⟨rfl, ht⟩ | ⟨u, rfl, ht⟩
 . rw [ht]
   simp [zdd, lsz]
   omega
 . rw [ht]
   simp [zdd, lsz]
   omega
theorem zdt (key : Str) (es : List (Str × Str)) (hr : zcs es) (ht : there key es = true) : (zby key es).length + 1 = es.length /\ zdd (zby key es) <= zdd es := by
 obtain ⟨a, b, c, he, _, ga, gc, gb⟩ := zc6 key es hr
 rw [he] at gb ht ⊢
 rcases gb with ⟨rfl, ht'⟩ | ⟨u, rfl, _⟩
 . rw [ht'] at ht; cases ht
 . rw [zh6 key u a c ga gc]
   simp [zdd]
   omega
theorem zgm {h : Nat} {key : Str} {e : Str × Tr h} (f : Tr h -> Tr h) : za8 h key [e] f = zbr h [] e.1 (f e.2) [] := by
 simp [za8, below]
theorem zkh {h : Nat} {lo k key : Str} {hi : Option Str} {A B : List (Str × Tr h)} {c : Tr h} (hc : Chain (WF h) lo hi (A ++ (k, c) :: B)) (hk : slt key k = false) (hb : zbj (zch none B) key)
   (ht : there key (kpairs h (A ++ (k, c) :: B)) = true) : there key (Tr.pairs h c) = true := by
 obtain ⟨m1, m2, _⟩ := zds hc hk hb
 rw [zbt, za9, <- List.append_assoc, zhc key _ _ _ m1 m2] at ht
 exact ht
/-! ### how many zfr there are -/
def zfr : (h : Nat) -> Tr h -> Nat
 | 0, _ => 1
 | h + 1, n => 1 + ((Nd.es n).map fun e => zfr h e.2).sum
def zlv : (h : Nat) -> Tr h -> Nat
 | 0, n => if Nd.dirty n then 1 else 0
 | h + 1, n => (if Nd.dirty n then 1 else 0) + ((Nd.es n).map fun e => zlv h e.2).sum
def zvn (h : Nat) (es : List (Str × Tr h)) : Nat := (es.map fun e => zlv h e.2).sum
theorem zki : ∀ (h : Nat) (n : Tr h), Reg h n -> zfr h n + 1 <= (Tr.pairs h n).length
 | 0, n, hr => by
   have hr' : 2 <= (Nd.es n).length := hr
   show 1 + 1 <= (Nd.es n).length
   omega
 | h + 1, n, hr => by
   have : ∀ l : List (Str × Tr h), (∀ e ∈ l, Reg h e.2) -> (l.map fun e => zfr h e.2).sum + l.length <= (kpairs h l).length := by
    intro l hl
    induction l with
    | nil => simp [kpairs]
    | cons a l ih =>
      have h1 := zki h a.2 (hl a (by simp))
      have h2 := ih fun e he => hl e (by simp [he])
      rw [za9]
      simp only [List.map_cons, List.sum_cons, List.length_cons, List.length_append]
      omega
   have h1 := this (Nd.es n) hr.2
   have h3 := hr.1
   show 1 + ((Nd.es n).map fun e => zfr h e.2).sum + 1 <= (kpairs h (Nd.es n)).length
   omega
theorem zpa {h : Nat} {l : List (Str × Tr h)} (hl : ∀ e ∈ l, Reg h e.2) : (l.map fun e => zfr h e.2).sum + l.length <= (kpairs h l).length := by
 induction l with
 | nil => simp [kpairs]
 | cons a l ih =>
   have h1 := zki h a.2 (hl a (by simp))
   have h2 := ih fun e he => hl e (by simp [he])
   rw [za9]
   simp only [List.map_cons, List.sum_cons, List.length_cons, List.length_append]
   omega
theorem zkj : ∀ (h : Nat) (n : Tr h), Reg h n -> 2 * 3 ^ h <= (Tr.pairs h n).length
 | 0, n, hr => hr
 | h + 1, n, hr => by
   have : ∀ l : List (Str × Tr h), (∀ e ∈ l, Reg h e.2) -> 2 * 3 ^ h * l.length <= (kpairs h l).length := by
    intro l hl
    induction l with
    | nil => simp
    | cons a l ih =>
      have h1 := zkj h a.2 (hl a (by simp))
      have h2 := ih fun e he => hl e (by simp [he])
      rw [za9, List.length_cons, List.length_append, Nat.mul_add, Nat.mul_one]
      omega
   have h1 := this (Nd.es n) hr.2
   have h3 : 2 * 3 ^ h * 3 <= 2 * 3 ^ h * (Nd.es n).length := Nat.mul_le_mul_left _ hr.1
   show 2 * 3 ^ (h + 1) <= (kpairs h (Nd.es n)).length
   rw [Nat.pow_succ, <- Nat.mul_assoc]
   omega
theorem zq1 {h : Nat} {n : Tr (h + 1)} (hr : Rtl (h + 1) n) : 4 * 3 ^ h <= (Tr.pairs (h + 1) n).length := by
 have : ∀ l : List (Str × Tr h), (∀ e ∈ l, Reg h e.2) -> 2 * 3 ^ h * l.length <= (kpairs h l).length := by
  intro l hl
  induction l with
  | nil => simp
  | cons a l ih =>
    have h1 := zkj h a.2 (hl a (by simp))
    have h2 := ih fun e he => hl e (by simp [he])
    rw [za9, List.length_cons, List.length_append, Nat.mul_add, Nat.mul_one]
    omega
 have h1 := this (Nd.es n) hr.2
 have h3 : 2 * 3 ^ h * 2 <= 2 * 3 ^ h * (Nd.es n).length := Nat.mul_le_mul_left _ hr.1
 show 4 * 3 ^ h <= (kpairs h (Nd.es n)).length
 omega
/-! ### how many are dirty behind a change -/
/-! ### a clean node has clean zfr below it -/
def DU : (h : Nat) -> Tr h -> Prop
 | 0, _ => True
 | h + 1, n => (Nd.dirty n = false -> zvn h (Nd.es n) = 0) /\ ∀ e ∈ Nd.es n, DU h e.2
def Kids (h : Nat) (es : List (Str × Tr h)) : Prop := ∀ e ∈ es, DU h e.2
theorem Kids.app {h : Nat} {a b : List (Str × Tr h)} (ha : Kids h a) (hb : Kids h b) : Kids h (a ++ b) := fun e he => by
 rcases List.mem_append.1 he with he | he
 . exact ha e he
 . exact hb e he
def zbz : Str := ByteArray.empty
structure TW (t : Tree) : Prop where
 none_ : t.root = none -> t.keys = 0
 some_ : ∀ h n, t.root = some ⟨h, n⟩ -> WF h zbz none n
 keys_ : t.keys = t.pairs.length
theorem TW.leaf {t : Tree} (ht : TW t) : LeafWF zbz none t.pairs := by
 unfold Tree.pairs
 cases hr : t.root with
 | none => exact ⟨List.Pairwise.nil, fun e he => by cases he⟩
 | some x => obtain ⟨h, n⟩ := x; exact zc3 h _ _ n (ht.some_ h n hr)
theorem TW.get {t : Tree} (ht : TW t) (key : Str) : t.get key = zbs key t.pairs := by
 unfold Tree.get Tree.pairs
 cases hr : t.root with
 | none => rfl
 | some x => obtain ⟨h, n⟩ := x; exact zep h _ _ n key (ht.some_ h n hr) (za5 key)
theorem TW.empty : TW ⟨none, 0⟩ := ⟨fun _ => rfl, (fun _ _ h => by cases h), rfl⟩
theorem zcj (key : Str) : zbj none key := zqz
theorem zud {h : Nat} {n : Tr h} (hw : WF h zbz none n) : WF (zc2 h n).1 zbz none (zc2 h n).2 /\ Tr.pairs (zc2 h n).1 (zc2 h n).2 = Tr.pairs h n := by
 unfold zc2
 have hf := zhe hw (by decide : zbz.size <= 8)
 unfold fix at hf
 cases hfl : Tr.full h n with
 | false => exact ⟨hw, rfl⟩
 | true =>
   rw [hfl] at hf
   exact hf
theorem zkk (t : Tree) (key v : Str) : ∃ h n, (t.root = some ⟨h, n⟩ \/ (t.root = none /\ (⟨h, n⟩ : (h : Nat) × Tr h) = ⟨0, zbk⟩)) /\ (t.put key v).root = some (zc2 h (Tr.put h n key v)) /\ t.pairs = Tr.pairs h n /\
   (t.put key v).pairs = Tr.pairs (zc2 h (Tr.put h n key v)).1 (zc2 h (Tr.put h n key v)).2 := by
 unfold Tree.put Tree.pairs
 cases hr : t.root with
 | none => exact ⟨0, zbk, .inr ⟨rfl, rfl⟩, rfl, rfl, rfl⟩
 | some x => obtain ⟨h, n⟩ := x; exact ⟨h, n, .inl rfl, rfl, rfl, rfl⟩
theorem zfg : WF 0 zbz none zbk := ⟨List.Pairwise.nil, fun e he => by cases he⟩
theorem zkl {t : Tree} (ht : TW t) {key v : Str} (h1 : zck key) (h2 : zdi v) : (t.put key v).pairs = zb7 key v t.pairs /\ TW (t.put key v) := by
 obtain ⟨h, n, hr, hp, hpt, hpp⟩ := zkk t key v
 have hw : WF h zbz none n := by
  rcases hr with hr | ⟨_, hr⟩
  . exact ht.some_ h n hr
  . cases hr; exact zfg
 obtain ⟨p1, p2⟩ := zeq h _ _ n key v hw (za5 key) (zcj key) h1 h2
 obtain ⟨g1, g2⟩ := zud p1
 have hpairs : (t.put key v).pairs = zb7 key v t.pairs := by rw [hpp, g2, p2, hpt]
 refine ⟨hpairs, ⟨(fun he => by rw [hp] at he; cases he), fun h' n' he => ?_, ?_⟩⟩
 . rw [hp] at he
   injection he with he
   rw [he] at g1
   exact g1
 . rw [hpairs]
   have hl := (zgl key v t.pairs ht.leaf.1).1
   rw [hl, zcw, <- ht.get key, <- ht.keys_]
   unfold Tree.put
   cases (t.get key).isSome <;> simp
theorem zgn {h : Nat} {n : Tr (h + 1)} {e : Str × Tr h} (hx : Nd.es n = [e]) : shrink (h + 1) n = shrink h e.2 := by
 show (match Nd.es n with | [e] => shrink h e.2 | _ => ⟨h + 1, n⟩) = _
 rw [hx]
theorem zi9 {h : Nat} {n : Tr (h + 1)} {e d : Str × Tr h} {X : List (Str × Tr h)} (hx : Nd.es n = e :: d :: X) : shrink (h + 1) n = ⟨h + 1, n⟩ := by
 show (match Nd.es n with | [e] => shrink h e.2 | _ => ⟨h + 1, n⟩) = _
 rw [hx]
theorem zkm : ∀ (h : Nat) (n : Tr h), WF h zbz none n -> WF (shrink h n).1 zbz none (shrink h n).2 /\ Tr.pairs (shrink h n).1 (shrink h n).2 = Tr.pairs h n
 | 0, n, hw => ⟨hw, rfl⟩
 | h + 1, n, hw => by
   have hw' : Chain (WF h) zbz none (Nd.es n) := hw
   cases hx : Nd.es n with
   | nil => rw [hx] at hw'; exact hw'.elim
   | cons e X =>
     cases X with
     | nil =>
       have hs := zgn hx
       rw [hx] at hw'
       obtain ⟨e1, _, e3⟩ := hw'
       rcases e3 with ⟨_, hwe⟩ | ⟨_, _, _, _, hcx⟩
       . obtain ⟨i1, i2⟩ := zkm h e.2 hwe
         rw [hs]
         refine ⟨i1, ?_⟩
         rw [i2]
         show _ = kpairs h (Nd.es n)
         rw [hx]; simp [kpairs]
       . exact hcx.elim
     | cons d X =>
       have hs := zi9 hx
       rw [hs]
       exact ⟨hw, rfl⟩
theorem zhf {t : Tree} (ht : TW t) (key : Str) : (t.delete key).pairs = zgk key t.pairs /\ TW (t.delete key) := by
 unfold Tree.delete
 cases hr : t.root with
 | none =>
   simp only
   refine ⟨?_, ht⟩
   have : t.pairs = [] := by unfold Tree.pairs; rw [hr]
   rw [this]; rfl
 | some x =>
   obtain ⟨h, n⟩ := x
   simp only
   have hw := ht.some_ h n hr
   have hpt : t.pairs = Tr.pairs h n := by unfold Tree.pairs; rw [hr]
   have hg : Tr.get h n key = zbs key (Tr.pairs h n) := zep h _ _ n key hw (za5 key)
   have hth : there key (Tr.pairs h n) = (Tr.get h n key).isSome := by rw [hg, zcw]
   cases hs : (Tr.get h n key).isSome with
   | false =>
     simp only [Bool.false_eq_true, if_false]
     refine ⟨?_, ht⟩
     unfold zgk
     rw [hpt, hth, hs]
     simp
   | true =>
     rw [hs] at hth
     simp only [if_true]
     obtain ⟨d1, d2⟩ := zf8 h _ _ n key hw (za5 key) (zcj key) hth
     obtain ⟨s1, s2⟩ := zkm h _ d1
     have hl := (zdt key (Tr.pairs h n) (zc3 h _ _ n hw).1 hth).1
     have hk := ht.keys_
     rw [hpt] at hk
     have hgd : zgk key t.pairs = zby key (Tr.pairs h n) := by unfold zgk; rw [hpt, hth]; simp
     rw [hgd]
     by_cases h0 : t.keys - 1 = 0
     . rw [if_pos h0]
       have hnil : zby key (Tr.pairs h n) = [] := List.eq_nil_of_length_eq_zero (by omega)
       refine ⟨by rw [hnil]; rfl, ⟨fun _ => h0, (fun _ _ he => by cases he), ?_⟩⟩
       exact h0
     . rw [if_neg h0]
       refine ⟨by show Tr.pairs _ _ = _; rw [s2, d2], ⟨(fun he => by cases he), fun h' n' he => ?_, ?_⟩⟩
       . injection he with he
         rw [he] at s1
         exact s1
       . show t.keys - 1 = (Tr.pairs _ _).length
         rw [s2, d2]
         omega
/-! ### how great -/
structure TF (t : Tree) : Prop where
 some_ : ∀ h n, t.root = some ⟨h, n⟩ -> Top h n /\ Fit h n /\ DU h n /\ ∀ h', h = h' + 1 -> 4 * 3 ^ h' <= t.keys
theorem TF.empty : TF ⟨none, 0⟩ := ⟨fun _ _ h => by cases h⟩
theorem TF.low {t : Tree} (ht : TF t) (hk : t.keys <= 129) {h : Nat} {n : Tr h} (hr : t.root = some ⟨h, n⟩) : h <= 4 := by
 obtain ⟨_, _, _, h4⟩ := ht.some_ h n hr
 cases h with
 | zero => omega
 | succ h =>
   have := h4 h rfl
   rcases Nat.lt_or_ge h 4 with hlt | hge
   . omega
   . exfalso
     have : 3 ^ 4 <= 3 ^ h := Nat.pow_le_pow_right (by omega) hge
     omega
def zvz (t : Tree) : Nat := match t.root with | none => 0 | some ⟨h, n⟩ => zfr h n
def zv0 (t : Tree) : Nat := match t.root with | none => 0 | some ⟨h, n⟩ => zlv h n
end Go.Proofs.YtemondlgcmpbbaaGreatDoor
