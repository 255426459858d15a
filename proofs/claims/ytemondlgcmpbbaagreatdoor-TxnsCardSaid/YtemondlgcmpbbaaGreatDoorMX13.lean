/- Ord Tree TreeA TreeB TreeC: merged. -/
import GoSem.Op.String
namespace Go.Proofs.YtemondlgcmpbbaaGreatDoor
set_option maxRecDepth 100000
abbrev Str := ByteArray
def slt (a b : Str) : Bool := Op.bytesLess a.toList b.toList
def seq (a b : Str) : Bool := a.toList == b.toList
theorem zke : ∀ x : List UInt8, Op.bytesLess x x = false
 | [] => rfl
 | a :: x => by simp [Op.bytesLess, zke x]
theorem zlr : ∀ x y z : List UInt8, Op.bytesLess x y = true -> Op.bytesLess y z = true -> Op.bytesLess x z = true
 | _, _, [], _, h => by simp [Op.bytesLess] at h
 | _, [], _ :: _, h, _ => by simp [Op.bytesLess] at h
 | [], _ :: _, _ :: _, _, _ => rfl
 | a :: x, b :: y, c :: z, h1, h2 => by
   simp only [Op.bytesLess, Bool.or_eq_true, Bool.and_eq_true, decide_eq_true_eq, beq_iff_eq] at *
   rcases h1 with h1 | ⟨rfl, h1⟩ <;> rcases h2 with h2 | ⟨rfl, h2⟩
   . exact .inl (UInt8.lt_trans h1 h2)
   . exact .inl h1
   . exact .inl h2
   . exact .inr ⟨rfl, zlr x y z h1 h2⟩
theorem zqw : ∀ x y : List UInt8, Op.bytesLess x y = true \/ x = y \/ Op.bytesLess y x = true
 | [], [] => .inr (.inl rfl)
 | [], _ :: _ => .inl rfl
 | _ :: _, [] => .inr (.inr rfl)
 | a :: x, b :: y => by
   simp only [Op.bytesLess, Bool.or_eq_true, Bool.and_eq_true, decide_eq_true_eq, beq_iff_eq]
   rcases Nat.lt_trichotomy a.toNat b.toNat with h | h | h
   . exact .inl (.inl (UInt8.lt_iff_toNat_lt.2 h))
   . have : a = b := UInt8.toNat_inj.1 h
     subst this
     rcases zqw x y with h | h | h
     . exact .inl (.inr ⟨rfl, h⟩)
     . exact .inr (.inl (by rw [h]))
     . exact .inr (.inr (.inr ⟨rfl, h⟩))
   . exact .inr (.inr (.inl (UInt8.lt_iff_toNat_lt.2 h)))
theorem znj (s : ByteArray) : ∀ (n i : Nat) (r : List UInt8), s.size - i = n -> ByteArray.toList.loop s i r = r.reverse ++ s.data.toList.drop i := by
 intro n
 induction n with
 | zero =>
   intro i r h
   have hs : s.data.toList.length = s.size := Array.length_toList
   rw [ByteArray.toList.loop, if_neg (by omega), List.drop_of_length_le (by omega)]
   simp
 | succ n ih =>
   intro i r h
   have hs : s.data.toList.length = s.size := Array.length_toList
   rw [ByteArray.toList.loop, if_pos (by omega), ih (i + 1) _ (by omega), List.drop_eq_getElem_cons (i := i) (by omega)]
   have hi : i < s.data.size := by
    have : s.data.size = s.size := rfl
    omega
   have hg : s.get! i = s.data.toList[i]'(by omega) := by
    show s.data[i]! = _
    rw [getElem!_pos s.data i hi, Array.getElem_toList]
   rw [hg, List.reverse_cons, List.append_assoc, List.singleton_append]
theorem zfw (s : ByteArray) : s.toList = s.data.toList := by
 rw [ByteArray.toList, znj s _ 0 [] rfl]
 simp
theorem zoa {a b : Str} (h : a.toList = b.toList) : a = b := by
 rw [zfw, zfw] at h
 cases a; cases b
 simp only at h
 congr
 exact Array.toList_inj.1 h
theorem zf6 {a b : Str} : seq a b = true ↔ a = b := by
 unfold seq
 rw [beq_iff_eq]
 exact ⟨zoa, fun h => by rw [h]⟩
theorem zc1 (a : Str) : seq a a = true := zf6.2 rfl
theorem zcu {a b : Str} (h : a ≠ b) : seq a b = false := by
 cases hs : seq a b with
 | false => rfl
 | true => exact absurd (zf6.1 hs) h
theorem zbb (a : Str) : slt a a = false := zke _
theorem zbn {a b c : Str} (h1 : slt a b = true) (h2 : slt b c = true) : slt a c = true := zlr _ _ _ h1 h2
theorem zj0 (a b : Str) : slt a b = true \/ a = b \/ slt b a = true := by
 rcases zqw a.toList b.toList with h | h | h
 . exact .inl h
 . exact .inr (.inl (zoa h))
 . exact .inr (.inr h)
theorem zbu {a b : Str} (h : slt a b = true) : slt b a = false := by
 cases hb : slt b a with
 | false => rfl
 | true => exact absurd (zbn h hb) (by rw [zbb]; simp)
theorem zcv {a b : Str} (h : slt a b = true) : a ≠ b := by
 rintro rfl; rw [zbb] at h; cases h
theorem zhr {a b : Str} : slt b a = false ↔ (slt a b = true \/ a = b) := by
 constructor
 . intro h
   rcases zj0 a b with h' | h' | h'
   . exact .inl h'
   . exact .inr h'
   . rw [h'] at h; cases h
 . rintro (h | rfl)
   . exact zbu h
   . exact zbb _
theorem zbq {a b c : Str} (h1 : slt a b = true) (h2 : slt c b = false) : slt a c = true := by
 rcases zhr.1 h2 with h | rfl
 . exact zbn h1 h
 . exact h1
theorem zfo {a b c : Str} (h1 : slt b a = false) (h2 : slt b c = true) : slt a c = true := by
 rcases zhr.1 h1 with h | rfl
 . exact zbn h h2
 . exact h2
theorem za5 (a : Str) : slt a ByteArray.empty = false := by
 unfold slt
 have : ByteArray.empty.toList = [] := by rw [zfw]; rfl
 rw [this]
 cases a.toList <;> rfl
structure Nd (K : Type) where
 blk : Nat
 gen : Nat
 dirty : Bool
 es : List (Str × K)
def Tr : Nat -> Type
 | 0 => Nd Str
 | h + 1 => Nd (Tr h)
def lsz (e : Str × Str) : Nat := 2 + e.1.size + e.2.size
def ksz {K : Type} (e : Str × K) : Nat := 7 + e.1.size
def zdd (l : List (Str × Str)) : Nat := (l.map lsz).sum
def ksum {K : Type} (l : List (Str × K)) : Nat := (l.map ksz).sum
def Tr.size : (h : Nat) -> Tr h -> Nat
 | 0, n => zdd (Nd.es n)
 | _ + 1, n => ksum (Nd.es n)
def Tr.full (h : Nat) (n : Tr h) : Bool := decide (116 < Tr.size h n)
def Tr.thin (h : Nat) (n : Tr h) : Bool := decide (Tr.size h n < 45)
def Tr.dirty : (h : Nat) -> Tr h -> Bool
 | 0, n => Nd.dirty n
 | _ + 1, n => Nd.dirty n
def Tr.blk : (h : Nat) -> Tr h -> Nat
 | 0, n => Nd.blk n
 | _ + 1, n => Nd.blk n
def Tr.gen : (h : Nat) -> Tr h -> Nat
 | 0, n => Nd.gen n
 | _ + 1, n => Nd.gen n
def Tr.len : (h : Nat) -> Tr h -> Nat
 | 0, n => (Nd.es n).length
 | _ + 1, n => (Nd.es n).length
def zb1 (all : Nat) : List Nat -> Nat -> Nat
 | [], _ => 0
 | s :: r, n => if all <= 2 * (n + s) then 0 else 1 + zb1 all r (n + s)
def zba (l : List Nat) : Nat := max 1 (min (zb1 l.sum l 0 + 1) (l.length - 1))
def fresh {K : Type} (es : List (Str × K)) : Nd K := ⟨0, 0, true, es⟩
def zas {K : Type} : List (Str × K) -> Str
 | [] => ByteArray.empty
 | e :: _ => e.1
def Tr.split : (h : Nat) -> Tr h -> Tr h × Str × Tr h
 | 0, n => let k := zba ((Nd.es n).map lsz); (fresh ((Nd.es n).take k), zas ((Nd.es n).drop k), fresh ((Nd.es n).drop k))
 | _ + 1, n => let k := zba ((Nd.es n).map ksz); (fresh ((Nd.es n).take k), zas ((Nd.es n).drop k), fresh ((Nd.es n).drop k))
def rekey {K : Type} (k : Str) : List (Str × K) -> List (Str × K)
 | [] => []
 | e :: r => (k, e.2) :: r
def Tr.join : (h : Nat) -> Tr h -> Str -> Tr h -> Tr h
 | 0, a, _, b => fresh (Nd.es a ++ Nd.es b)
 | _ + 1, a, k, b => fresh (Nd.es a ++ rekey k (Nd.es b))
def fix (h : Nat) (k : Str) (c : Tr h) : List (Str × Tr h) :=
 if Tr.full h c then [(k, (Tr.split h c).1), ((Tr.split h c).2.1, (Tr.split h c).2.2)] else [(k, c)]
def zbr (h : Nat) (pre : List (Str × Tr h)) (k : Str) (c : Tr h) (post : List (Str × Tr h)) : List (Str × Tr h) :=
 if Tr.thin h c then
  match post with
  | d :: post' => pre ++ fix h k (Tr.join h c d.1 d.2) ++ post'
  | [] => match pre.getLast? with
    | some b => pre.dropLast ++ fix h b.1 (Tr.join h b.2 k c)
    | none => fix h k c
 else pre ++ fix h k c ++ post
def below {K : Type} (key : Str) (es : List (Str × K)) : Nat := (es.tail.takeWhile fun e => !slt key e.1).length
def place {K : Type} (key : Str) (es : List (Str × K)) : Nat := (es.takeWhile fun e => slt e.1 key).length
def there {K : Type} (key : Str) (es : List (Str × K)) : Bool :=
 match es.drop (place key es) with
 | [] => false
 | e :: _ => seq e.1 key
def zb7 (key v : Str) (es : List (Str × Str)) : List (Str × Str) :=
 es.take (place key es) ++ (key, v) :: es.drop (if there key es then place key es + 1 else place key es)
def zby (key : Str) (es : List (Str × Str)) : List (Str × Str) := es.take (place key es) ++ es.drop (place key es + 1)
def za8 (h : Nat) (key : Str) (es : List (Str × Tr h)) (f : Tr h -> Tr h) : List (Str × Tr h) :=
 match es.drop (below key es) with
 | [] => es
 | e :: post => zbr h (es.take (below key es)) e.1 (f e.2) post
def Tr.put : (h : Nat) -> Tr h -> Str -> Str -> Tr h
 | 0, n, key, v => fresh (zb7 key v (Nd.es n))
 | h + 1, n, key, v => fresh (za8 h key (Nd.es n) fun c => Tr.put h c key v)
def Tr.drop : (h : Nat) -> Tr h -> Str -> Tr h
 | 0, n, key => fresh (zby key (Nd.es n))
 | h + 1, n, key => fresh (za8 h key (Nd.es n) fun c => Tr.drop h c key)
def zbs (key : Str) (es : List (Str × Str)) : Option Str :=
 match es.drop (place key es) with
 | [] => none
 | e :: _ => if seq e.1 key then some e.2 else none
def Tr.get : (h : Nat) -> Tr h -> Str -> Option Str
 | 0, n, key => zbs key (Nd.es n)
 | h + 1, n, key => match (Nd.es n).drop (below key (Nd.es n)) with
   | [] => none
   | e :: _ => Tr.get h e.2 key
def Tr.pairs : (h : Nat) -> Tr h -> List (Str × Str)
 | 0, n => Nd.es n
 | h + 1, n => (Nd.es n).flatMap fun e => Tr.pairs h e.2
structure Tree where
 root : Option ((h : Nat) × Tr h)
 keys : Nat
def Tree.get (t : Tree) (key : Str) : Option Str :=
 match t.root with
 | none => none
 | some ⟨h, n⟩ => Tr.get h n key
def Tree.pairs (t : Tree) : List (Str × Str) :=
 match t.root with
 | none => []
 | some ⟨h, n⟩ => Tr.pairs h n
def zc2 (h : Nat) (n : Tr h) : (h : Nat) × Tr h :=
 if Tr.full h n then ⟨h + 1, (fresh [(ByteArray.empty, (Tr.split h n).1), ((Tr.split h n).2.1, (Tr.split h n).2.2)] : Nd (Tr h))⟩ else ⟨h, n⟩
def zbk : Tr 0 := (⟨0, 0, false, []⟩ : Nd Str)
def Tree.put (t : Tree) (key v : Str) : Tree :=
 { keys := if (t.get key).isSome then t.keys else t.keys + 1
   root := match t.root with
    | none => some (zc2 0 (Tr.put 0 zbk key v))
    | some ⟨h, n⟩ => some (zc2 h (Tr.put h n key v)) }
def shrink : (h : Nat) -> Tr h -> (h : Nat) × Tr h
 | 0, n => ⟨0, n⟩
 | h + 1, n => match Nd.es n with
   | [e] => shrink h e.2
   | _ => ⟨h + 1, n⟩
def Tree.delete (t : Tree) (key : Str) : Tree :=
 match t.root with
 | none => t
 | some ⟨h, n⟩ => if (Tr.get h n key).isSome then
     { keys := t.keys - 1, root := if t.keys - 1 = 0 then none else some (shrink h (Tr.drop h n key)) }
   else t
def zcs {K : Type} (l : List (Str × K)) : Prop := l.Pairwise fun a b => slt a.1 b.1 = true
theorem zgv {α : Type} (p : α -> Bool) : ∀ (a b : List α), (∀ x ∈ a, p x = true) -> (a ++ b).takeWhile p = a ++ b.takeWhile p
 | [], _, _ => rfl
 | x :: a, b, h => by
   rw [List.cons_append, List.takeWhile_cons_of_pos (h x (by simp)), zgv p a b fun y hy => h y (by simp [hy])]
   rfl
theorem zqx {K : Type} (key : Str) (a b : List (Str × K)) (h : ∀ e ∈ a, slt e.1 key = true) : place key (a ++ b) = a.length + place key b := by
 unfold place
 rw [zgv _ a b h, List.length_append]
theorem zo6 {K : Type} (key : Str) (b c : List (Str × K)) (h : ∀ e ∈ c, slt e.1 key = false) : place key (b ++ c) = place key b := by
 unfold place
 induction b with
 | nil =>
   cases c with
   | nil => rfl
   | cons x c =>
     rw [List.nil_append, List.takeWhile_cons_of_neg (by simp [h x (by simp)])]
     rfl
 | cons x b ih =>
   rw [List.cons_append]
   by_cases hx : slt x.1 key = true
   . rw [List.takeWhile_cons_of_pos (by simpa using hx), List.takeWhile_cons_of_pos (by simpa using hx), List.length_cons, List.length_cons, ih]
   . rw [List.takeWhile_cons_of_neg (by simpa using hx), List.takeWhile_cons_of_neg (by simpa using hx)]
theorem zdo {K : Type} (key : Str) (b : List (Str × K)) : place key b <= b.length := by
 unfold place
 induction b with
 | nil => simp
 | cons x b ih =>
   by_cases hx : slt x.1 key = true
   . rw [List.takeWhile_cons_of_pos (by simpa using hx), List.length_cons, List.length_cons]; omega
   . rw [List.takeWhile_cons_of_neg (by simpa using hx)]; simp
theorem zfx {K : Type} (key : Str) (l : List (Str × K)) (hr : zcs l) : (∀ e ∈ l.take (place key l), slt e.1 key = true) /\ (∀ e ∈ l.drop (place key l), slt e.1 key = false) := by
 unfold place
 induction l with
 | nil => simp
 | cons x b ih =>
   obtain ⟨h1, h2⟩ := List.pairwise_cons.1 hr
   by_cases hx : slt x.1 key = true
   . rw [List.takeWhile_cons_of_pos (by simpa using hx), List.length_cons]
     have := ih h2
     refine ⟨?_, ?_⟩
     . intro e he
       rw [List.take_succ_cons] at he
       rcases List.mem_cons.1 he with rfl | he
       . exact hx
       . exact this.1 e he
     . intro e he
       rw [List.drop_succ_cons] at he
       exact this.2 e he
   . have hx' : slt x.1 key = false := by simpa using hx
     rw [List.takeWhile_cons_of_neg (by simpa using hx)]
     refine ⟨by simp, ?_⟩
     intro e he
     simp only [List.length_nil, List.drop_zero, List.mem_cons] at he
     rcases he with rfl | he
     . exact hx'
     . exact zbu (zfo hx' (h1 e he))
theorem zc6 {K : Type} (key : Str) (l : List (Str × K)) (hr : zcs l) :
   ∃ a b c, l = a ++ b ++ c /\ a.length = place key l /\ (∀ e ∈ a, slt e.1 key = true) /\ (∀ e ∈ c, slt key e.1 = true) /\
     ((b = [] /\ there key l = false) \/ (∃ v, b = [(key, v)] /\ there key l = true)) := by
 obtain ⟨h1, h2⟩ := zfx key l hr
 have hl := zdo key l
 have hcut : l = l.take (place key l) ++ l.drop (place key l) := (List.take_append_drop _ _).symm
 cases hd : l.drop (place key l) with
 | nil =>
   refine ⟨l.take (place key l), [], [], ?_, by rw [List.length_take]; omega, h1, by simp, .inl ⟨rfl, ?_⟩⟩
   . rw [hd] at hcut; simpa using hcut
   . unfold there; rw [hd]
 | cons e r =>
   have he : slt e.1 key = false := h2 e (by rw [hd]; simp)
   have hrd : zcs (e :: r) := by rw [<- hd]; exact List.Pairwise.sublist (List.drop_sublist _ _) hr
   obtain ⟨h3, h4⟩ := List.pairwise_cons.1 hrd
   rcases zhr.1 he with hlt | heq
   . refine ⟨l.take (place key l), [], e :: r, ?_, by rw [List.length_take]; omega, h1, ?_, .inl ⟨rfl, ?_⟩⟩
     . rw [hd] at hcut; simpa using hcut
     . intro x hx
       rcases List.mem_cons.1 hx with rfl | hx
       . exact hlt
       . exact zbn hlt (h3 x hx)
     . unfold there; rw [hd]; exact zcu (fun h => zcv hlt h.symm)
   . obtain ⟨k, v⟩ := e
     simp only at heq
     subst heq
     refine ⟨l.take (place key l), [(key, v)], r, ?_, by rw [List.length_take]; omega, h1, fun x hx => h3 x hx, .inr ⟨v, rfl, ?_⟩⟩
     . rw [hd] at hcut; simpa using hcut
     . unfold there; rw [hd]; exact zc1 _
section
variable (key v : Str) (a b c : List (Str × Str)) (ha : ∀ e ∈ a, slt e.1 key = true) (hc : ∀ e ∈ c, slt key e.1 = true)
include ha hc
theorem zhb : place key (a ++ b ++ c) = a.length + place key b := by
 rw [List.append_assoc, zqx key a _ ha, zo6 key b c fun e he => zbu (hc e he)]
theorem zim : (a ++ b ++ c).drop (place key (a ++ b ++ c)) = b.drop (place key b) ++ c := by
 rw [zhb key a b c ha hc, List.append_assoc, List.drop_append, List.drop_of_length_le (by omega), List.nil_append, Nat.add_sub_cancel_left, List.drop_append, Nat.sub_eq_zero_of_le (zdo key b), List.drop_zero]
theorem zhc : there key (a ++ b ++ c) = there key b := by
 unfold there
 rw [zim key a b c ha hc]
 cases hb : b.drop (place key b) with
 | cons e r => rfl
 | nil =>
   cases c with
   | nil => rfl
   | cons x c => exact zcu (fun h => zcv (hc x (by simp)) h.symm)
theorem zgh : zbs key (a ++ b ++ c) = zbs key b := by
 unfold zbs
 rw [zim key a b c ha hc]
 cases hb : b.drop (place key b) with
 | cons e r => rfl
 | nil =>
   cases c with
   | nil => rfl
   | cons x c =>
     simp only [List.nil_append]
     rw [if_neg]
     rw [zcu (fun h => zcv (hc x (by simp)) h.symm)]
     simp
theorem zls : zb7 key v (a ++ b ++ c) = a ++ zb7 key v b ++ c := by
 unfold zb7
 have hl := zdo key b
 rw [zhc key a b c ha hc, zhb key a b c ha hc]
 have ht : (a ++ b ++ c).take (a.length + place key b) = a ++ b.take (place key b) := by
  rw [List.append_assoc, List.take_append, List.take_of_length_le (by omega), Nat.add_sub_cancel_left, List.take_append, Nat.sub_eq_zero_of_le hl, List.take_zero, List.append_nil]
 rw [ht]
 cases hth : there key b with
 | false =>
   have hd : (a ++ b ++ c).drop (a.length + place key b) = b.drop (place key b) ++ c := by
    rw [List.append_assoc, List.drop_append, List.drop_of_length_le (by omega), List.nil_append, Nat.add_sub_cancel_left, List.drop_append, Nat.sub_eq_zero_of_le hl, List.drop_zero]
   simp only [Bool.false_eq_true, if_false]
   rw [hd]
   simp only [List.append_assoc, List.cons_append]
 | true =>
   have hlt : place key b + 1 <= b.length := by
    unfold there at hth
    cases hb : b.drop (place key b) with
    | nil => rw [hb] at hth; cases hth
    | cons e r =>
      have := congrArg List.length hb
      simp only [List.length_drop, List.length_cons] at this
      omega
   have hd : (a ++ b ++ c).drop (a.length + place key b + 1) = b.drop (place key b + 1) ++ c := by
    rw [List.append_assoc, List.drop_append, List.drop_of_length_le (by omega), List.nil_append, Nat.add_assoc, Nat.add_sub_cancel_left, List.drop_append, Nat.sub_eq_zero_of_le hlt, List.drop_zero]
   simp only [if_true]
   rw [hd]
   simp only [List.append_assoc, List.cons_append]
theorem zkf (hb : there key b = true) : zby key (a ++ b ++ c) = a ++ zby key b ++ c := by
 unfold zby
 have hl := zdo key b
 rw [zhb key a b c ha hc]
 have ht : (a ++ b ++ c).take (a.length + place key b) = a ++ b.take (place key b) := by
  rw [List.append_assoc, List.take_append, List.take_of_length_le (by omega), Nat.add_sub_cancel_left, List.take_append, Nat.sub_eq_zero_of_le hl, List.take_zero, List.append_nil]
 rw [ht]
 have hlt : place key b + 1 <= b.length := by
  unfold there at hb
  cases hb' : b.drop (place key b) with
  | nil => rw [hb'] at hb; cases hb
  | cons e r =>
    have := congrArg List.length hb'
    simp only [List.length_drop, List.length_cons] at this
    omega
 have hd : (a ++ b ++ c).drop (a.length + place key b + 1) = b.drop (place key b + 1) ++ c := by
  rw [List.append_assoc, List.drop_append, List.drop_of_length_le (by omega), List.nil_append, Nat.add_assoc, Nat.add_sub_cancel_left, List.drop_append, Nat.sub_eq_zero_of_le hlt, List.drop_zero]
 rw [hd]
 simp
end
theorem zgi (key v : Str) (a c : List (Str × Str)) (b : List (Str × Str)) (ha : ∀ e ∈ a, slt e.1 key = true) (hc : ∀ e ∈ c, slt key e.1 = true) (hb : b = [] \/ ∃ u, b = [(key, u)]) :
   zb7 key v (a ++ b ++ c) = a ++ (key, v) :: c := by
 rw [zls key v a b c ha hc]
 rcases hb with rfl | ⟨u, rfl⟩
 . simp [zb7, place, there]
 . simp [zb7, place, there, zbb, zc1]
theorem zlt (key : Str) (a c : List (Str × Str)) (ha : ∀ e ∈ a, slt e.1 key = true) (hc : ∀ e ∈ c, slt key e.1 = true) : zbs key (a ++ [] ++ c) = none /\ ∀ u, zbs key (a ++ [(key, u)] ++ c) = some u := by
 refine ⟨?_, fun u => ?_⟩
 . rw [zgh key a [] c ha hc]; rfl
 . rw [zgh key a _ c ha hc]; simp [zbs, place, zbb, zc1]
theorem zh6 (key u : Str) (a c : List (Str × Str)) (ha : ∀ e ∈ a, slt e.1 key = true) (hc : ∀ e ∈ c, slt key e.1 = true) : zby key (a ++ [(key, u)] ++ c) = a ++ c := by
 rw [zkf key a _ c ha hc (by simp [there, place, zbb, zc1])]
 simp [zby, place, zbb]
theorem zcw (key : Str) (l : List (Str × Str)) : there key l = (zbs key l).isSome := by
 unfold there zbs
 cases l.drop (place key l) with
 | nil => rfl
 | cons e r => cases h : seq e.1 key <;> simp [h]
def zbj (hi : Option Str) (k : Str) : Prop := ∀ b, hi = some b -> slt k b = true
def zck (k : Str) : Prop := 1 <= k.size /\ k.size <= 8
def zdi (v : Str) : Prop := v.size <= 12
def LeafWF (lo : Str) (hi : Option Str) (es : List (Str × Str)) : Prop :=
 zcs es /\ ∀ e ∈ es, slt e.1 lo = false /\ zbj hi e.1 /\ zck e.1 /\ zdi e.2
def Chain {K : Type} (W : Str -> Option Str -> K -> Prop) : Str -> Option Str -> List (Str × K) -> Prop
 | _, _, [] => False
 | lo, hi, a :: X => a.1 = lo /\ a.1.size <= 8 /\ ((X = [] /\ W lo hi a.2) \/ ∃ k, slt lo k = true /\ zbj hi k /\ W lo (some k) a.2 /\ Chain W k hi X)
def WF : (h : Nat) -> Str -> Option Str -> Tr h -> Prop
 | 0, lo, hi, n => LeafWF lo hi (Nd.es n)
 | h + 1, lo, hi, n => Chain (WF h) lo hi (Nd.es n)
section
variable {K : Type} {W : Str -> Option Str -> K -> Prop}
def zch (hi : Option Str) : List (Str × K) -> Option Str
 | [] => hi
 | e :: _ => some e.1
theorem zo7 {lo : Str} {hi : Option Str} {X : List (Str × K)} (h : Chain W lo hi X) : zas X = lo := by
 cases X with
 | nil => exact h.elim
 | cons a X => exact h.1
theorem zi7 {lo : Str} {hi hi' : Option Str} {X : List (Str × K)} (h : Chain W lo hi X) : zch hi' X = some lo := by
 cases X with
 | nil => exact h.elim
 | cons a X => exact congrArg some h.1
theorem zeo {lo k : Str} {hi : Option Str} {A B : List (Str × K)} (hA : Chain W lo (some k) A) (hlt : slt lo k = true) (hk : zbj hi k) (hB : Chain W k hi B) : Chain W lo hi (A ++ B) := by
 induction A generalizing lo with
 | nil => exact hA.elim
 | cons a A ih =>
   obtain ⟨h1, h2, h3⟩ := hA
   refine ⟨h1, h2, .inr ?_⟩
   rcases h3 with ⟨rfl, hw⟩ | ⟨k', hlk, hk', hw, hc⟩
   . exact ⟨k, hlt, hk, hw, hB⟩
   . have hkk : slt k' k = true := hk' k rfl
     exact ⟨k', hlk, fun b hb => zbn hkk (hk b hb), hw, ih hc hkk⟩
theorem zc7 {lo : Str} {hi : Option Str} {A B : List (Str × K)} (h : Chain W lo hi (A ++ B)) (hA : A ≠ []) (hB : B ≠ []) :
   Chain W lo (some (zas B)) A /\ slt lo (zas B) = true /\ zbj hi (zas B) /\ Chain W (zas B) hi B := by
 induction A generalizing lo with
 | nil => exact absurd rfl hA
 | cons a A ih =>
   obtain ⟨h1, h2, h3⟩ := h
   cases A with
   | nil =>
     rcases h3 with ⟨he, hw⟩ | ⟨k', hlk, hk', hw, hc⟩
     . exact absurd he hB
     . have : zas B = k' := zo7 hc
       subst this
       exact ⟨⟨h1, h2, .inl ⟨rfl, hw⟩⟩, hlk, hk', hc⟩
   | cons b A =>
     rcases h3 with ⟨he, hw⟩ | ⟨k', hlk, hk', hw, hc⟩
     . cases he
     . obtain ⟨q1, q2, q3, q4⟩ := ih hc (by simp)
       refine ⟨⟨h1, h2, .inr ⟨k', hlk, ?_, hw, q1⟩⟩, zbn hlk q2, q3, q4⟩
       intro b' hb'
       injection hb' with hb'
       subst hb'
       exact q2
theorem zci {lo k : Str} {hi : Option Str} {A B : List (Str × K)} {c : K} (h : Chain W lo hi (A ++ (k, c) :: B)) :
   W k (zch hi B) c /\ k.size <= 8 /\ (∀ M, Chain W k (zch hi B) M -> Chain W lo hi (A ++ M ++ B)) /\ (A = [] -> k = lo) /\ (A ≠ [] -> slt lo k = true) := by
 have base : ∀ lo', Chain W lo' hi ((k, c) :: B) -> W k (zch hi B) c /\ k.size <= 8 /\ k = lo' /\ ∀ M, Chain W k (zch hi B) M -> Chain W lo' hi (M ++ B) := by
  intro lo' hc
  obtain ⟨h1, h2, h3⟩ := hc
  simp only at h1 h2
  subst h1
  rcases h3 with ⟨rfl, hw⟩ | ⟨k', hlk, hk', hw, hcB⟩
  . exact ⟨hw, h2, rfl, fun M hM => by rw [List.append_nil]; exact hM⟩
  . have he : zch hi B = some k' := zi7 hcB
    rw [he]
    exact ⟨hw, h2, rfl, fun M hM => zeo hM hlk hk' hcB⟩
 cases A with
 | nil =>
   obtain ⟨b1, b2, b3, b4⟩ := base lo h
   exact ⟨b1, b2, fun M hM => by simpa using b4 M hM, fun _ => b3, fun hn => absurd rfl hn⟩
 | cons a A =>
   obtain ⟨s1, s2, s3, s4⟩ := zc7 h (by simp) (by simp)
   obtain ⟨b1, b2, _, b4⟩ := base _ s4
   exact ⟨b1, b2, fun M hM => by
    rw [List.append_assoc]
    exact zeo s1 s2 s3 (b4 M hM), (fun hn => by cases hn), fun _ => s2⟩
theorem zfp {lo k k2 : Str} {hi : Option Str} {A B : List (Str × K)} {c d : K} (h : Chain W lo hi (A ++ (k, c) :: (k2, d) :: B)) :
   W k (some k2) c /\ W k2 (zch hi B) d /\ slt k k2 = true /\ zbj (zch hi B) k2 /\ k.size <= 8 /\ k2.size <= 8 /\ (∀ M, Chain W k (zch hi B) M -> Chain W lo hi (A ++ M ++ B)) := by
 have base : ∀ lo', Chain W lo' hi ((k, c) :: (k2, d) :: B) -> W k (some k2) c /\ W k2 (zch hi B) d /\ slt k k2 = true /\ zbj (zch hi B) k2 /\ k.size <= 8 /\ k2.size <= 8 /\ (∀ M, Chain W k (zch hi B) M -> Chain W lo' hi (M ++ B)) := by
  intro lo' hc
  obtain ⟨h1, h2, h3⟩ := hc
  simp only at h1 h2
  subst h1
  rcases h3 with ⟨he, _⟩ | ⟨k', hlk, hk', hw, hcB⟩
  . cases he
  . obtain ⟨g1, g2, g3⟩ := hcB
    simp only at g1 g2
    subst g1
    rcases g3 with ⟨rfl, hw2⟩ | ⟨k3, hlk3, hk3, hw2, hcB2⟩
    . exact ⟨hw, hw2, hlk, hk', h2, g2, fun M hM => by rw [List.append_nil]; exact hM⟩
    . have he : zch hi B = some k3 := zi7 hcB2
      rw [he]
      exact ⟨hw, hw2, hlk, fun b hb => by injection hb with hb; rw [<- hb]; exact hlk3, h2, g2, fun M hM => zeo hM (zbn hlk hlk3) hk3 hcB2⟩
 cases A with
 | nil =>
   obtain ⟨b1, b2, b3, b4, b5, b6, b7⟩ := base lo h
   exact ⟨b1, b2, b3, b4, b5, b6, fun M hM => by simpa using b7 M hM⟩
 | cons a A =>
   obtain ⟨s1, s2, s3, s4⟩ := zc7 h (by simp) (by simp)
   obtain ⟨b1, b2, b3, b4, b5, b6, b7⟩ := base _ s4
   exact ⟨b1, b2, b3, b4, b5, b6, fun M hM => by
    rw [List.append_assoc]
    exact zeo s1 s2 s3 (b7 M hM)⟩
theorem zi8 {k : Str} {hi : Option Str} {X : List (Str × K)} (h : Chain W k hi X) : rekey k X = X := by
 cases X with
 | nil => rfl
 | cons a X => obtain ⟨h1, _⟩ := h; obtain ⟨a1, a2⟩ := a; simp only at h1; subst h1; rfl
theorem zde {lo key : Str} {hi : Option Str} {X : List (Str × K)} (h : Chain W lo hi X) (hk : slt key lo = false) :
   ∃ A e B, X = A ++ e :: B /\ below key X = A.length /\ slt key e.1 = false /\ zbj (zch none B) key := by
 induction X generalizing lo with
 | nil => exact h.elim
 | cons a X ih =>
   obtain ⟨h1, h2, h3⟩ := h
   cases X with
   | nil => exact ⟨[], a, [], rfl, rfl, by rw [h1]; exact hk, fun b hb => by cases hb⟩
   | cons d X =>
     rcases h3 with ⟨he, _⟩ | ⟨k', hlk, hk', hw, hc⟩
     . cases he
     . have hd : d.1 = k' := hc.1
       by_cases hx : slt key d.1 = true
       . refine ⟨[], a, d :: X, rfl, ?_, by rw [h1]; exact hk, fun b hb => ?_⟩
         . simp [below, hx]
         . injection hb with hb; rw [<- hb]; exact hx
       . have hx' : slt key d.1 = false := by simpa using hx
         obtain ⟨A, e, B, hX, hl, h5, h6⟩ := ih hc (by rw [<- hd]; exact hx')
         refine ⟨a :: A, e, B, by rw [hX]; rfl, ?_, h5, h6⟩
         simp only [below, List.tail_cons] at hl ⊢
         rw [List.takeWhile_cons_of_pos (by simp [hx']), List.length_cons, List.length_cons, hl]
end
/-! ### the pairs -/
theorem zqy {a k : Str} : zbj (some a) k ↔ slt k a = true := ⟨fun h => h a rfl, fun h b hb => by injection hb with hb; rw [<- hb]; exact h⟩
theorem zqz {k : Str} : zbj none k := fun b hb => by cases hb
theorem zob {hi : Option Str} {k k' : Str} (h : zbj hi k) (hk : slt k' k = true) : zbj hi k' := fun b hb => zbn hk (h b hb)
def kpairs (h : Nat) (es : List (Str × Tr h)) : List (Str × Str) := es.flatMap fun e => Tr.pairs h e.2
theorem zbt (h : Nat) (a b : List (Str × Tr h)) : kpairs h (a ++ b) = kpairs h a ++ kpairs h b := by simp [kpairs]
theorem za9 (h : Nat) (e : Str × Tr h) (b : List (Str × Tr h)) : kpairs h (e :: b) = Tr.pairs h e.2 ++ kpairs h b := by simp [kpairs]
theorem zo8 (h : Nat) : kpairs h [] = [] := rfl
theorem zfy {h : Nat} (hW : ∀ lo hi c, WF h lo hi c -> LeafWF lo hi (Tr.pairs h c)) {lo : Str} {hi : Option Str} {X : List (Str × Tr h)} (hc : Chain (WF h) lo hi X) : LeafWF lo hi (kpairs h X) := by
 induction X generalizing lo with
 | nil => exact hc.elim
 | cons a X ih =>
   obtain ⟨h1, h2, h3⟩ := hc
   rw [za9]
   rcases h3 with ⟨rfl, hw⟩ | ⟨k, hlk, hk, hw, hcX⟩
   . simpa [kpairs] using hW _ _ _ hw
   . obtain ⟨a1, a2⟩ := hW _ _ _ hw
     obtain ⟨b1, b2⟩ := ih hcX
     refine ⟨List.pairwise_append.2 ⟨a1, b1, fun x hx y hy => ?_⟩, fun e he => ?_⟩
     . exact zbq ((a2 x hx).2.1 k rfl) (b2 y hy).1
     . rcases List.mem_append.1 he with he | he
       . obtain ⟨q1, q2, q3⟩ := a2 e he
         exact ⟨q1, zob hk (q2 k rfl), q3⟩
       . obtain ⟨q1, q2, q3⟩ := b2 e he
         exact ⟨zbu (zbq hlk q1), q2, q3⟩
theorem zc3 : ∀ (h : Nat) (lo : Str) (hi : Option Str) (c : Tr h), WF h lo hi c -> LeafWF lo hi (Tr.pairs h c)
 | 0, _, _, _, hw => hw
 | h + 1, _, _, _, hw => zfy (zc3 h) hw
theorem zds {h : Nat} {lo k key : Str} {hi : Option Str} {A B : List (Str × Tr h)} {c : Tr h} (hc : Chain (WF h) lo hi (A ++ (k, c) :: B)) (hk : slt key k = false) (hb : zbj (zch none B) key) :
   (∀ e ∈ kpairs h A, slt e.1 key = true) /\ (∀ e ∈ kpairs h B, slt key e.1 = true) /\ (zbj hi key -> zbj (zch hi B) key) := by
 refine ⟨?_, ?_, ?_⟩
 . cases A with
   | nil => simp [kpairs]
   | cons a A =>
     obtain ⟨s1, _, _, _⟩ := zc7 hc (by simp) (by simp)
     intro e he
     exact zbq (((zfy (zc3 h) s1).2 e he).2.1 k rfl) hk
 . cases B with
   | nil => simp [kpairs]
   | cons b B =>
     have hc' : Chain (WF h) lo hi ((A ++ [(k, c)]) ++ b :: B) := by simpa using hc
     obtain ⟨_, _, _, s4⟩ := zc7 hc' (by simp) (by simp)
     intro e he
     exact zbq (hb b.1 rfl) ((zfy (zc3 h) s4).2 e he).1
 . intro hh
   cases B with
   | nil => exact hh
   | cons b B => exact hb
theorem zep : ∀ (h : Nat) (lo : Str) (hi : Option Str) (n : Tr h) (key : Str), WF h lo hi n -> slt key lo = false -> Tr.get h n key = zbs key (Tr.pairs h n)
 | 0, _, _, _, _, _, _ => rfl
 | h + 1, lo, hi, n, key, hw, hk => by
   obtain ⟨A, ⟨k, c⟩, B, hX, hl, h5, h6⟩ := zde (show Chain (WF h) lo hi (Nd.es n) from hw) hk
   have hc : Chain (WF h) lo hi (A ++ (k, c) :: B) := by rw [<- hX]; exact hw
   obtain ⟨m1, m2, _⟩ := zds hc h5 h6
   show (match (Nd.es n).drop (below key (Nd.es n)) with | [] => none | e :: _ => Tr.get h e.2 key) = zbs key (kpairs h (Nd.es n))
   rw [hl, hX, List.drop_left]
   simp only
   rw [zbt, za9, <- List.append_assoc, zgh key _ _ _ m1 m2]
   exact zep h _ _ c key (zci hc).1 h5
/-! ### where a list is parted -/
theorem zkg (all : Nat) : ∀ (l : List Nat) (n : Nat), 2 * n < all -> all <= 2 * (n + l.sum) ->
   zb1 all l n < l.length /\ all <= 2 * (n + (l.take (zb1 all l n + 1)).sum) /\ 2 * (n + (l.take (zb1 all l n)).sum) < all
 | [], n, h1, h2 => by simp at h2; omega
 | s :: r, n, h1, h2 => by
   unfold zb1
   by_cases hs : all <= 2 * (n + s)
   . rw [if_pos hs]; simp; omega
   . rw [if_neg hs]
     simp only [List.sum_cons] at h2
     obtain ⟨q1, q2, q3⟩ := zkg all r (n + s) (by omega) (by omega)
     rw [Nat.add_comm 1]
     refine ⟨by simp only [List.length_cons]; omega, ?_, ?_⟩
     . rw [List.take_succ_cons, List.sum_cons]; omega
     . rw [List.take_succ_cons, List.sum_cons]; omega
theorem zq0 {l : List Nat} {m : Nat} (hm : ∀ x ∈ l, x <= m) : l.sum <= m * l.length := by
 induction l with
 | nil => simp
 | cons x l ih =>
   have h1 := hm x (by simp)
   have h2 := ih fun y hy => hm y (by simp [hy])
   simp only [List.sum_cons, List.length_cons, Nat.mul_add, Nat.mul_one]
   omega
theorem zfq (l : List Nat) (m : Nat) (hm : ∀ x ∈ l, x <= m) (h1 : 2 * m < l.sum) :
   1 <= zba l /\ zba l < l.length /\ l.sum <= 2 * (l.take (zba l)).sum /\ 2 * (l.take (zba l)).sum < l.sum + 2 * m := by
 obtain ⟨q1, q2, q3⟩ := zkg l.sum l 0 (by omega) (by omega)
 simp only [Nat.zero_add] at q2 q3
 have hj : zb1 l.sum l 0 + 1 < l.length := by
  rcases Nat.lt_or_ge (zb1 l.sum l 0 + 1) l.length with h | h
  . exact h
  . exfalso
    have he : zb1 l.sum l 0 + 1 = l.length := by omega
    have hlast : l = l.take (zb1 l.sum l 0) ++ [l[zb1 l.sum l 0]] := by
     have := List.take_succ_eq_append_getElem q1
     rw [he, List.take_length] at this
     exact this
    have hs : l.sum = (l.take (zb1 l.sum l 0)).sum + l[zb1 l.sum l 0] := by
     have := congrArg List.sum hlast
     simp only [List.sum_append, List.sum_cons, List.sum_nil, Nat.add_zero] at this
     exact this
    have := hm l[zb1 l.sum l 0] (List.getElem_mem _)
    omega
 have hh : zba l = zb1 l.sum l 0 + 1 := by unfold zba; omega
 rw [hh]
 refine ⟨by omega, hj, q2, ?_⟩
 rw [List.take_succ_eq_append_getElem q1]
 have := hm l[zb1 l.sum l 0] (List.getElem_mem _)
 simp only [List.sum_append, List.sum_cons, List.sum_nil]
 omega
theorem zhd {α : Type} (f : α -> Nat) (l : List α) (k : Nat) : ((l.map f).take k).sum = ((l.take k).map f).sum := by rw [List.map_take]
theorem zgw {α : Type} (f : α -> Nat) (l : List α) (k : Nat) : ((l.take k).map f).sum + ((l.drop k).map f).sum = (l.map f).sum := by
 rw [<- List.sum_append, <- List.map_append, List.take_append_drop]
/-! ### the elements' sizes -/
theorem zf7 {lo : Str} {hi : Option Str} {es : List (Str × Str)} (h : LeafWF lo hi es) : ∀ e ∈ es, lsz e <= 22 := by
 intro e he
 obtain ⟨_, _, h3, h4⟩ := h.2 e he
 unfold zck at h3; unfold zdi at h4; unfold lsz
 omega
theorem zdp {K : Type} {W : Str -> Option Str -> K -> Prop} {lo : Str} {hi : Option Str} {es : List (Str × K)} (h : Chain W lo hi es) : ∀ e ∈ es, ksz e <= 15 := by
 induction es generalizing lo with
 | nil => simp
 | cons a X ih =>
   obtain ⟨_, h2, h3⟩ := h
   intro e he
   rcases List.mem_cons.1 he with rfl | he
   . unfold ksz; omega
   . rcases h3 with ⟨rfl, _⟩ | ⟨k, _, _, _, hc⟩
     . cases he
     . exact ih hc e he
theorem zk5 {K : Type} (l : List (Str × K)) (k : Nat) (h : k < l.length) : zas (l.drop k) = l[k].1 := by
 rw [List.drop_eq_getElem_cons h]; rfl
theorem zo9 {lo : Str} {hi : Option Str} {es : List (Str × Str)} (h : LeafWF lo hi es) (k : Nat) (h1 : 1 <= k) (h2 : k < es.length) :
   LeafWF lo (some (zas (es.drop k))) (es.take k) /\ LeafWF (zas (es.drop k)) hi (es.drop k) /\ slt lo (zas (es.drop k)) = true /\ zbj hi (zas (es.drop k)) /\ (zas (es.drop k)).size <= 8 := by
 obtain ⟨hr, ha⟩ := h
 have hcut : es = es.take k ++ es.drop k := (List.take_append_drop _ _).symm
 have hr' := hr
 rw [hcut] at hr'
 obtain ⟨r1, r2, r3⟩ := List.pairwise_append.1 hr'
 have hfk := zk5 es k h2
 have hm : es[k] ∈ es.drop k := by rw [List.drop_eq_getElem_cons h2]; exact List.mem_cons_self
 have hm' : es[k] ∈ es := List.getElem_mem _
 have hlt : ∀ x ∈ es.take k, slt x.1 (zas (es.drop k)) = true := fun x hx => by rw [hfk]; exact r3 x hx _ hm
 have h0 : es[0]'(by omega) ∈ es.take k := by
  rw [List.mem_take_iff_getElem]
  exact ⟨0, by omega, rfl⟩
 refine ⟨⟨r1, fun e he => ?_⟩, ⟨r2, fun e he => ?_⟩, ?_, ?_, ?_⟩
 . obtain ⟨q1, _, q3⟩ := ha e (List.mem_of_mem_take he)
   exact ⟨q1, zqy.2 (hlt e he), q3⟩
 . obtain ⟨_, q2, q3⟩ := ha e (List.mem_of_mem_drop he)
   refine ⟨?_, q2, q3⟩
   rw [List.drop_eq_getElem_cons h2] at he r2
   rw [hfk]
   rcases List.mem_cons.1 he with rfl | he
   . exact zbb _
   . exact zbu ((List.pairwise_cons.1 r2).1 e he)
 . exact zfo (ha _ (List.mem_of_mem_take h0)).1 (hlt _ h0)
 . rw [hfk]; exact (ha _ hm').2.1
 . rw [hfk]; exact (ha _ hm').2.2.1.2
theorem zsk : ∀ (h : Nat) (lo : Str) (hi : Option Str) (c : Tr h), WF h lo hi c -> Tr.full h c = true ->
   WF h lo (some (Tr.split h c).2.1) (Tr.split h c).1 /\ WF h (Tr.split h c).2.1 hi (Tr.split h c).2.2 /\ slt lo (Tr.split h c).2.1 = true /\ zbj hi (Tr.split h c).2.1 /\ (Tr.split h c).2.1.size <= 8 /\
    Tr.pairs h (Tr.split h c).1 ++ Tr.pairs h (Tr.split h c).2.2 = Tr.pairs h c
 | 0, lo, hi, c, hw, hf => by
   have hs : 116 < zdd (Nd.es c) := of_decide_eq_true hf
   obtain ⟨q1, q2, _, _⟩ := zfq ((Nd.es c).map lsz) 22 (by intro x hx; obtain ⟨e, he, rfl⟩ := List.mem_map.1 hx; exact zf7 hw e he) (by unfold zdd at hs; omega)
   rw [List.length_map] at q2
   obtain ⟨s1, s2, s3, s4, s5⟩ := zo9 hw _ q1 q2
   exact ⟨s1, s2, s3, s4, s5, List.take_append_drop _ _⟩
 | h + 1, lo, hi, c, hw, hf => by
   have hs : 116 < ksum (Nd.es c) := of_decide_eq_true hf
   obtain ⟨q1, q2, _, _⟩ := zfq ((Nd.es c).map ksz) 15 (by intro x hx; obtain ⟨e, he, rfl⟩ := List.mem_map.1 hx; exact zdp (show Chain (WF h) lo hi (Nd.es c) from hw) e he) (by unfold ksum at hs; omega)
   rw [List.length_map] at q2
   have hcut : (Nd.es c) = (Nd.es c).take (zba ((Nd.es c).map ksz)) ++ (Nd.es c).drop (zba ((Nd.es c).map ksz)) := (List.take_append_drop _ _).symm
   have hw' : Chain (WF h) lo hi ((Nd.es c).take (zba ((Nd.es c).map ksz)) ++ (Nd.es c).drop (zba ((Nd.es c).map ksz))) := by rw [<- hcut]; exact hw
   have n1 : (Nd.es c).take (zba ((Nd.es c).map ksz)) ≠ [] := fun e => by
    have := congrArg List.length e
    rw [List.length_take, List.length_nil] at this
    omega
   have n2 : (Nd.es c).drop (zba ((Nd.es c).map ksz)) ≠ [] := fun e => by
    have := congrArg List.length e
    rw [List.length_drop, List.length_nil] at this
    omega
   obtain ⟨s1, s2, s3, s4⟩ := zc7 hw' n1 n2
   refine ⟨s1, s4, s2, s3, ?_, ?_⟩
   . cases hd : (Nd.es c).drop (zba ((Nd.es c).map ksz)) with
     | nil => exact absurd hd n2
     | cons a X =>
       rw [hd] at s4
       show (zas ((Nd.es c).drop (zba ((Nd.es c).map ksz)))).size <= 8
       rw [hd]
       exact s4.2.1
   . show kpairs h _ ++ kpairs h _ = kpairs h (Nd.es c)
     rw [<- zbt]
     exact congrArg _ (List.take_append_drop _ _)
theorem zhe {h : Nat} {lo : Str} {hi : Option Str} {c : Tr h} (hw : WF h lo hi c) (hl : lo.size <= 8) : Chain (WF h) lo hi (fix h lo c) /\ kpairs h (fix h lo c) = Tr.pairs h c := by
 unfold fix
 cases hf : Tr.full h c with
 | false => exact ⟨⟨rfl, hl, .inl ⟨rfl, hw⟩⟩, by simp [kpairs]⟩
 | true =>
   obtain ⟨s1, s2, s3, s4, s5, s6⟩ := zsk h lo hi c hw hf
   refine ⟨⟨rfl, hl, .inr ⟨_, s3, s4, s1, rfl, s5, .inl ⟨rfl, s2⟩⟩⟩, ?_⟩
   simp [kpairs, s6]
theorem zhs : ∀ (h : Nat) (k k2 : Str) (hi : Option Str) (c d : Tr h), WF h k (some k2) c -> WF h k2 hi d -> slt k k2 = true -> zbj hi k2 ->
   WF h k hi (Tr.join h c k2 d) /\ Tr.pairs h (Tr.join h c k2 d) = Tr.pairs h c ++ Tr.pairs h d
 | 0, k, k2, hi, c, d, hc, hd, hk, hh => by
   obtain ⟨c1, c2⟩ := hc
   obtain ⟨d1, d2⟩ := hd
   refine ⟨⟨List.pairwise_append.2 ⟨c1, d1, fun x hx y hy => zbq ((c2 x hx).2.1 k2 rfl) (d2 y hy).1⟩, fun e he => ?_⟩, rfl⟩
   rcases List.mem_append.1 he with he | he
   . obtain ⟨q1, q2, q3⟩ := c2 e he
     exact ⟨q1, zob hh (q2 k2 rfl), q3⟩
   . obtain ⟨q1, q2, q3⟩ := d2 e he
     exact ⟨zbu (zbq hk q1), q2, q3⟩
 | h + 1, k, k2, hi, c, d, hc, hd, hk, hh => by
   have hr : rekey k2 (Nd.es d) = Nd.es d := zi8 (show Chain (WF h) k2 hi (Nd.es d) from hd)
   refine ⟨?_, ?_⟩
   . show Chain (WF h) k hi (Nd.es c ++ rekey k2 (Nd.es d))
     rw [hr]
     exact zeo hc hk hh hd
   . show kpairs h (Nd.es c ++ rekey k2 (Nd.es d)) = kpairs h (Nd.es c) ++ kpairs h (Nd.es d)
     rw [hr, zbt]
theorem zgj {α : Type} (l : List α) (x : α) (h : l.getLast? = some x) : l = l.dropLast ++ [x] := by
 have hne : l ≠ [] := by rintro rfl; simp at h
 have := List.dropLast_concat_getLast hne
 rw [List.getLast?_eq_some_getLast hne] at h
 injection h with h
 rw [h] at this
 exact this.symm
theorem zoc {h : Nat} {lo k : Str} {hi : Option Str} {A B : List (Str × Tr h)} {c0 c : Tr h} (hc : Chain (WF h) lo hi (A ++ (k, c0) :: B)) (hw : WF h k (zch hi B) c) :
   Chain (WF h) lo hi (zbr h A k c B) /\ kpairs h (zbr h A k c B) = kpairs h A ++ Tr.pairs h c ++ kpairs h B := by
 obtain ⟨_, hk8, hrep, _, _⟩ := zci hc
 have hnew : Chain (WF h) lo hi (A ++ (k, c) :: B) := by
  have := hrep [(k, c)] ⟨rfl, hk8, .inl ⟨rfl, hw⟩⟩
  simpa using this
 unfold zbr
 cases ht : Tr.thin h c with
 | false =>
   obtain ⟨f1, f2⟩ := zhe hw hk8
   exact ⟨hrep _ f1, by simp [zbt, f2]⟩
 | true =>
   cases B with
   | cons d B =>
     obtain ⟨k2, d⟩ := d
     obtain ⟨t1, t2, t3, t4, t5, _, t7⟩ := zfp hnew
     obtain ⟨j1, j2⟩ := zhs h k k2 _ c d t1 t2 t3 t4
     obtain ⟨f1, f2⟩ := zhe j1 t5
     exact ⟨t7 _ f1, by simp [zbt, za9, f2, j2]⟩
   | nil =>
     cases hl : A.getLast? with
     | none =>
       have : A = [] := by simpa using hl
       subst this
       obtain ⟨f1, f2⟩ := zhe hw hk8
       have := hrep _ f1
       exact ⟨by simpa using this, by simpa [kpairs] using f2⟩
     | some b =>
       obtain ⟨kb, b⟩ := b
       have hA := zgj A _ hl
       have hnew' : Chain (WF h) lo hi (A.dropLast ++ (kb, b) :: (k, c) :: []) := by
        have := hnew
        rw [hA] at this
        simpa using this
       obtain ⟨t1, t2, t3, t4, t5, _, t7⟩ := zfp hnew'
       obtain ⟨j1, j2⟩ := zhs h kb k _ b c t1 t2 t3 t4
       obtain ⟨f1, f2⟩ := zhe j1 t5
       refine ⟨by have := t7 _ f1; simpa using this, ?_⟩
       conv => rhs; rw [hA]
       simp [zbt, za9, zo8, f2, j2]
theorem zsl {h : Nat} {lo key : Str} {hi : Option Str} {X : List (Str × Tr h)} (hX : Chain (WF h) lo hi X) (hk : slt key lo = false) (hh : zbj hi key) (f : Tr h -> Tr h) (g : List (Str × Str) -> List (Str × Str))
   (hf : ∀ k hi' c, WF h k hi' c -> slt key k = false -> zbj hi' key -> WF h k hi' (f c) /\ Tr.pairs h (f c) = g (Tr.pairs h c))
   (hg : ∀ a b c, (∀ e ∈ a, slt e.1 key = true) -> (∀ e ∈ c, slt key e.1 = true) -> g (a ++ b ++ c) = a ++ g b ++ c) :
   Chain (WF h) lo hi (za8 h key X f) /\ kpairs h (za8 h key X f) = g (kpairs h X) := by
 obtain ⟨A, ⟨k, c⟩, B, hXe, hl, h5, h6⟩ := zde hX hk
 have hc : Chain (WF h) lo hi (A ++ (k, c) :: B) := by rw [<- hXe]; exact hX
 obtain ⟨m1, m2, m3⟩ := zds hc h5 h6
 obtain ⟨f1, f2⟩ := hf k _ c (zci hc).1 h5 (m3 hh)
 obtain ⟨q1, q2⟩ := zoc hc f1
 unfold za8
 rw [hl, hXe, List.drop_left, List.take_left]
 refine ⟨q1, ?_⟩
 simp only
 rw [q2, f2, zbt, za9, <- List.append_assoc, hg _ _ _ m1 m2]
theorem zuc {lo key v : Str} {hi : Option Str} {es : List (Str × Str)} (h : LeafWF lo hi es) (hk : slt key lo = false) (hh : zbj hi key) (h1 : zck key) (h2 : zdi v) : LeafWF lo hi (zb7 key v es) := by
 obtain ⟨hr, ha⟩ := h
 obtain ⟨a, b, c, he, _, ga, gc, gb⟩ := zc6 key es hr
 have hb : b = [] \/ ∃ u, b = [(key, u)] := gb.imp (fun h => h.1) (fun ⟨u, h⟩ => ⟨u, h.1⟩)
 rw [he, zgi key v a c b ga gc hb]
 rw [he] at hr ha
 obtain ⟨r1, r2, r3⟩ := List.pairwise_append.1 hr
 obtain ⟨r4, _, _⟩ := List.pairwise_append.1 r1
 refine ⟨List.pairwise_append.2 ⟨r4, List.pairwise_cons.2 ⟨gc, r2⟩, fun x hx y hy => ?_⟩, fun e hm => ?_⟩
 . rcases List.mem_cons.1 hy with rfl | hy
   . exact ga x hx
   . exact r3 x (by simp [hx]) y hy
 . rcases List.mem_append.1 hm with hm | hm
   . exact ha e (by simp [hm])
   . rcases List.mem_cons.1 hm with rfl | hm
     . exact ⟨hk, hh, h1, h2⟩
     . exact ha e (by simp [hm])
theorem zsm {lo key : Str} {hi : Option Str} {es : List (Str × Str)} (h : LeafWF lo hi es) : LeafWF lo hi (zby key es) := by
 obtain ⟨hr, ha⟩ := h
 have hs : List.Sublist (zby key es) es := by
  unfold zby
  have : es = es.take (place key es) ++ es.drop (place key es) := (List.take_append_drop _ _).symm
  conv => rhs; rw [this]
  exact List.Sublist.append (List.Sublist.refl _) (List.drop_sublist_drop_left _ (by omega))
 exact ⟨hr.sublist hs, fun e he => ha e (hs.subset he)⟩
theorem zeq : ∀ (h : Nat) (lo : Str) (hi : Option Str) (n : Tr h) (key v : Str), WF h lo hi n -> slt key lo = false -> zbj hi key -> zck key -> zdi v ->
   WF h lo hi (Tr.put h n key v) /\ Tr.pairs h (Tr.put h n key v) = zb7 key v (Tr.pairs h n)
 | 0, _, _, _, _, _, hw, hk, hh, h1, h2 => ⟨zuc hw hk hh h1 h2, rfl⟩
 | h + 1, lo, hi, n, key, v, hw, hk, hh, h1, h2 =>
   zsl (show Chain (WF h) lo hi (Nd.es n) from hw) hk hh _ (zb7 key v) (fun k hi' c hc ck ch => zeq h k hi' c key v hc ck ch h1 h2) (fun a b c ha hc => zls key v a b c ha hc)
def zgk (key : Str) (l : List (Str × Str)) : List (Str × Str) := if there key l then zby key l else l
theorem zf8 : ∀ (h : Nat) (lo : Str) (hi : Option Str) (n : Tr h) (key : Str), WF h lo hi n -> slt key lo = false -> zbj hi key -> there key (Tr.pairs h n) = true ->
   WF h lo hi (Tr.drop h n key) /\ Tr.pairs h (Tr.drop h n key) = zby key (Tr.pairs h n)
 | 0, _, _, _, _, hw, _, _, _ => ⟨zsm hw, rfl⟩
 | h + 1, lo, hi, n, key, hw, hk, hh, ht => by
   obtain ⟨A, ⟨k, c⟩, B, hXe, hl, h5, h6⟩ := zde (show Chain (WF h) lo hi (Nd.es n) from hw) hk
   have hc : Chain (WF h) lo hi (A ++ (k, c) :: B) := by rw [<- hXe]; exact hw
   obtain ⟨m1, m2, m3⟩ := zds hc h5 h6
   have hp : Tr.pairs (h + 1) n = kpairs h A ++ Tr.pairs h c ++ kpairs h B := by
    show kpairs h (Nd.es n) = _
    rw [hXe, zbt, za9, <- List.append_assoc]
   have htc : there key (Tr.pairs h c) = true := by rw [hp, zhc key _ _ _ m1 m2] at ht; exact ht
   obtain ⟨f1, f2⟩ := zf8 h k _ c key (zci hc).1 h5 (m3 hh) htc
   obtain ⟨q1, q2⟩ := zoc hc f1
   have hon : za8 h key (Nd.es n) (fun c => Tr.drop h c key) = zbr h A k (Tr.drop h c key) B := by
    unfold za8
    rw [hl, hXe, List.drop_left, List.take_left]
   refine ⟨?_, ?_⟩
   . show Chain (WF h) lo hi (za8 h key (Nd.es n) fun c => Tr.drop h c key)
     rw [hon]; exact q1
   . show kpairs h (za8 h key (Nd.es n) fun c => Tr.drop h c key) = _
     rw [hon, q2, f2, hp, zkf key _ _ _ m1 m2 htc]
end Go.Proofs.YtemondlgcmpbbaaGreatDoor
