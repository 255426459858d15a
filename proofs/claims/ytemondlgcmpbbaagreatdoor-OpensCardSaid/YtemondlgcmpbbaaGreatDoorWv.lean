/- The world of a script in which nothing is ever committed: what holds between two steps. -/
import Derived.Test.YtemondlgcmpbbaaGreatDoorLe
import Derived.Test.YtemondlgcmpbbaaGreatDoorLf
import Derived.Test.YtemondlgcmpbbaaGreatDoorPk
namespace Go.Proofs.YtemondlgcmpbbaaGreatDoor
open Go.RowKit

/-- One step of a script. -/
structure OpS where
  kind : Int
  x : Int
  y : Int
  a : Int
  b : Int
  s : ByteArray
  t : ByteArray
def OpS.cells (o : OpS) : Array Value := #[.int .i64 o.kind, .int .i64 o.x, .int .i64 o.y, .int .i64 o.a, .int .i64 o.b, .string o.s, .string o.t]
structure OpS.ok (o : OpS) : Prop where
  kind : I64 o.kind
  x : I64 o.x
  y : I64 o.y
  a : I64 o.a
  b : I64 o.b

/-- The blocks of one disk of the script. -/
structure DkB where
  p : Nat
  db : Nat
  g : Nat
def DkB.has (d : DkB) (y : Nat) : Prop := y = d.p ∨ y = d.db ∨ y = d.g
def DkB.apart (a b : DkB) : Prop := a.p ≠ b.p ∧ a.db ≠ b.db ∧ a.g ≠ b.g

theorem Dk.more {w : World} {K K' b g base n : Nat} {cv : Value} {m : Nums} {bytes : List UInt8} {cache : List (Nat × List UInt8)} (h : Dk w K b g base n cv m bytes cache) (hK : K ≤ K') : Dk w K' b g base n cv m bytes cache :=
  ⟨h.at_, h.blk, h.len, h.own, h.ok, h.many, h.num.mono hK, h.fits, h.base_⟩

/-- A disk on which there was never a tree. -/
structure DiskOk (w : World) (B N : Nat) (d : DkB) (s : LdS) (m : Nums) (bytes : List UInt8) (kM kW : Nat) : Prop where
  at_ : LdAt w d.p s
  ok : LdOk w s kM kW
  dk : Dk w (5 * N) d.db d.g 0 s.n (.slice none 0 0) m bytes []
  db : s.db = d.db
  calm : m.calm
  hz : Hz (dread bytes []) N
  few : kW ≤ N
  st : (headsN (dread bytes []) = [] ∧ kM = 0) ∨ (∃ hd tl, headsN (dread bytes []) = hd :: tl ∧ kM = 1)
  lo : B ≤ d.p ∧ B ≤ d.db ∧ B ≤ d.g
  lt : s.n < 1000
def DiskIs (w : World) (B N : Nat) (d : DkB) : Prop := ∃ s m bytes kM kW, DiskOk w B N d s m bytes kM kW

section
variable {w w' : World} {B N : Nat} {d : DkB} {s : LdS} {m : Nums} {bytes : List UInt8} {kM kW : Nat}
theorem DiskOk.has_ne (h : DiskOk w B N d s m bytes kM kW) {y : Nat} {T : TypeId} {cs : Array Value} (hy : Blk w y T cs) (h1 : T ≠ 245) (h2 : T ≠ 103) (h3 : T ≠ 111) : ¬ d.has y := fun e => by
  rcases e with e | e | e
  · subst e; exact Blk.ne_ hy h.at_ h1 rfl
  · subst e; exact Blk.ne_ hy h.dk.at_ h2 rfl
  · subst e; exact Blk.ne_ hy h.dk.blk h3 rfl
theorem DiskOk.has_lt (h : DiskOk w B N d s m bytes kM kW) {y : Nat} (hy : d.has y) : y < w.heap.size := by
  rcases hy with e | e | e
  · subst e; exact h.at_.lt
  · subst e; exact h.dk.at_.lt
  · subst e; exact h.dk.blk.lt
theorem DiskOk.has_lo (h : DiskOk w B N d s m bytes kM kW) {y : Nat} (hy : d.has y) : B ≤ y := by
  have := h.lo
  rcases hy with e | e | e <;> omega
theorem DiskOk.only {fp : Nat → Prop} (h : DiskOk w B N d s m bytes kM kW) (ho : Only fp w w') (hp : ¬ fp d.p) (hdb : ¬ fp d.db) (hg : ¬ fp d.g) (hm : ∀ x cs, Blk w x 241 cs → ¬ fp x) : DiskOk w' B N d s m bytes kM kW :=
  ⟨Blk.only h.at_ ho hp, ⟨h.ok.may.only ho hm, h.ok.were.only ho hm, h.ok.emp, h.ok.wild, h.ok.bit, h.ok.kM, h.ok.kW⟩, h.dk.only ho (fun y hy e => by
    rcases hy with hy | hy | hy
    · subst hy; exact hdb e
    · subst hy; exact hg e
    · cases hy), h.db, h.calm, h.hz, h.few, h.st, h.lo, h.lt⟩
theorem DiskOk.more (h : DiskOk w B N d s m bytes kM kW) : DiskOk w B (N + 1) d s m bytes kM kW :=
  ⟨h.at_, h.ok, h.dk.more (by omega), h.db, h.calm, h.hz.mono (by omega), by have := h.few; omega, h.st, h.lo, h.lt⟩
theorem DiskIs.more (h : DiskIs w B N d) : DiskIs w B (N + 1) d := by
  obtain ⟨s, m, bytes, kM, kW, h⟩ := h
  exact ⟨s, m, bytes, kM, kW, h.more⟩
theorem DiskIs.below (h : DiskIs w B N d) (hb : Below w.heap.size w w') : DiskIs w' B N d := by
  obtain ⟨s, m, bytes, kM, kW, h⟩ := h
  exact ⟨s, m, bytes, kM, kW, h.only (fp := fun _ => False) (Only.of_below hb) id id id (fun _ _ _ => id)⟩
end

def dptr (d : DkB) : Value := .pointer (some ⟨d.p, 0, none⟩)
/-- Between two steps. -/
structure WIs (w : World) (B N wb : Nat) (keepv disksv : Value) (xs : List Value) (ds : List DkB) : Prop where
  at_ : Blk w wb 186 #[keepv, disksv]
  keep : w.ownsRow B 3 1 keepv xs.length xs
  disks : w.ownsRow B 235 1 disksv ds.length (ds.map dptr)
  each : ∀ d ∈ ds, DiskIs w B N d
  apart : ds.Pairwise DkB.apart
  kl : xs.length ≤ N
  dl : ds.length ≤ N
  lo : B ≤ wb
def WI (w : World) (B N wb : Nat) : Prop := ∃ keepv disksv xs ds, WIs w B N wb keepv disksv xs ds

section
variable {w w' : World} {B N wb : Nat} {keepv disksv : Value} {xs : List Value} {ds : List DkB}
theorem WIs.more (h : WIs w B N wb keepv disksv xs ds) : WIs w B (N + 1) wb keepv disksv xs ds :=
  ⟨h.at_, h.keep, h.disks, fun d hd => (h.each d hd).more, h.apart, by have := h.kl; omega, by have := h.dl; omega, h.lo⟩
theorem WIs.below (h : WIs w B N wb keepv disksv xs ds) (hb : Below w.heap.size w w') : WIs w' B N wb keepv disksv xs ds :=
  ⟨h.at_.below hb h.at_.lt, ownN_below h.keep hb, ownN_below h.disks hb, fun d hd => (h.each d hd).below hb, h.apart, h.kl, h.dl, h.lo⟩
/-- One disk has turned. -/
theorem WIs.turn (h : WIs w B N wb keepv disksv xs ds) {d : DkB} (hm : d ∈ ds) (ho : Only d.has w w') (hd : DiskIs w' B (N + 1) d) : WIs w' B (N + 1) wb keepv disksv xs ds := by
  obtain ⟨s0, m0, by0, kM0, kW0, h0⟩ := h.each d hm
  refine ⟨h.at_.only ho (h0.has_ne h.at_ (by decide) (by decide) (by decide)), ownN_only h.keep ho (fun x cs hx => h0.has_ne hx (by decide) (by decide) (by decide)), ownN_only h.disks ho (fun x cs hx => h0.has_ne hx (by decide) (by decide) (by decide)), ?_, h.apart, by have := h.kl; omega, by have := h.dl; omega, h.lo⟩
  intro e he
  by_cases hed : e = d
  · subst hed; exact hd
  · obtain ⟨s1, m1, by1, kM1, kW1, h1⟩ := h.each e he
    have hap : e.p ≠ d.p ∧ e.db ≠ d.db ∧ e.g ≠ d.g := by
      rcases List.Pairwise.forall_of_forall_of_flip (R := fun a b => a = b ∨ (a.p ≠ b.p ∧ a.db ≠ b.db ∧ a.g ≠ b.g)) (fun x _ => .inl rfl) (h.apart.imp fun h => .inr h) (h.apart.imp fun h => .inr ⟨h.1.symm, h.2.1.symm, h.2.2.symm⟩) he hm with h | h
      · exact absurd h hed
      · exact h
    refine (show DiskIs w' B N e from ⟨s1, m1, by1, kM1, kW1, h1.only ho ?_ ?_ ?_ (fun x cs hx => h0.has_ne hx (by decide) (by decide) (by decide))⟩).more
    · rintro (k | k | k)
      · exact hap.1 k
      · exact Blk.ne_ h1.at_ h0.dk.at_ (by decide) k
      · exact Blk.ne_ h1.at_ h0.dk.blk (by decide) k
    · rintro (k | k | k)
      · exact Blk.ne_ h1.dk.at_ h0.at_ (by decide) k
      · exact hap.2.1 k
      · exact Blk.ne_ h1.dk.at_ h0.dk.blk (by decide) k
    · rintro (k | k | k)
      · exact Blk.ne_ h1.dk.blk h0.at_ (by decide) k
      · exact Blk.ne_ h1.dk.blk h0.dk.at_ (by decide) k
      · exact hap.2.2 k
end

section
variable {w : World} {B N : Nat} {d : DkB}
theorem Only.has_below {w w' : World} (h : DiskIs w B N d) (ho : Only d.has w w') (hB : B ≤ w.heap.size) : Below B w w' := by
  obtain ⟨s, m, bytes, kM, kW, h⟩ := h
  exact ho.to_below hB fun x hx => h.has_lo hx
theorem ticks_add (m : Nums) (a b : Nat) : ticks (ticks m a) b = ticks m (a + b) := by
  induction b with
  | zero => rfl
  | succ b ih => show (ticks (ticks m a) b).tick = _; rw [ih]; rfl

theorem step_format (h : DiskIs w B N d) (hg : Glob w) (hB : 0 < B) (hN : N ≤ 16384) :
    Calls Tryz.prog 148 #[dptr d] w fun e w' => e = .returned (.bool true) ∧ DiskIs w' B (N + 1) d ∧ Only d.has w w' := by
  obtain ⟨s, m, bytes, kM, kW, h⟩ := h
  have hlo := h.lo
  have hfew := h.few
  have hdk : Dk w (5 * N) s.db d.g 0 s.n (.slice none 0 0) m bytes [] := by rw [h.db]; exact h.dk
  cases hf : fitsN s.n with
  | false =>
    refine (formatted_bad (5 * N) d.p d.g 0 kM kW s m bytes w h.at_ h.ok hdk hf hg (by omega)).mono ?_
    rintro e w' ⟨rfl, hl, ho⟩
    have ho' : Only d.has w w' := ho.mono fun x _ e => .inl e
    have hpd : ¬ dfp d.db d.g (.slice none 0 0) d.p := disk_dfp h.dk h.at_ (by decide) (by decide) (by decide)
    have hm : ∀ x cs, Blk w x 241 cs → ¬ x = d.p := fun x cs hx e => by subst e; exact Blk.ne_ hx h.at_ (by decide) rfl
    exact ⟨rfl, ⟨s.closed, m, bytes, kM, kW, (show DiskOk w' B N d s.closed m bytes kM kW from ⟨hl, ⟨h.ok.may.only ho hm, h.ok.were.only ho hm, h.ok.emp, h.ok.wild, h.ok.bit, h.ok.kM, h.ok.kW⟩, h.dk.only ho (fun y hy e => hpd (e ▸ hy)), h.db, h.calm, h.hz, h.few, h.st, h.lo, h.lt⟩).more⟩, ho'⟩
  | true =>
    refine (formatted_fit (5 * N) d.p d.g 0 kM kW s m bytes w h.at_ h.ok hdk h.calm hf (by unfold edge; omega) (by omega)).mono ?_
    rintro e w' ⟨may', were', rfl, hl, hok, hd, ho⟩
    rw [h.db] at hd ho
    have hn := (fitsN_iff s.n).1 hf
    obtain ⟨hd1, tl1, e1, _, hz1⟩ := format_heads (bytes := bytes) (n := s.n) (G := N) h.dk.len hn.1 h.hz (by omega)
    exact ⟨rfl, ⟨_, _, _, 1, kW + 1, ⟨hl, hok, hd.more (by omega), h.db, ((((ticks_calm h.calm 2).tick).wrote).tick), hz1, by omega, .inr ⟨hd1, tl1, e1, rfl⟩, h.lo, h.lt⟩⟩, ho⟩

theorem step_open (h : DiskIs w B N d) (hg : Glob w) (hB : 0 < B) (hN : N ≤ 16384) :
    Calls Tryz.prog 149 #[dptr d] w fun e w' => e = .returned (.bool true) ∧ DiskIs w' B (N + 1) d ∧ Only d.has w w' := by
  obtain ⟨s, m, bytes, kM, kW, h⟩ := h
  have hlo := h.lo
  have hfew := h.few
  have hdk : Dk w (5 * N) s.db d.g 0 s.n (.slice none 0 0) m bytes [] := by rw [h.db]; exact h.dk
  have hpd : ¬ dfp d.db d.g (.slice none 0 0) d.p := disk_dfp h.dk h.at_ (by decide) (by decide) (by decide)
  cases hf : fitsN s.n with
  | false =>
    refine (opened_bad (5 * N) d.p d.g 0 kM kW s m bytes w h.at_ h.ok hdk hf hg (by omega)).mono ?_
    rintro e w' ⟨rfl, hl, ho⟩
    have ho' : Only d.has w w' := ho.mono fun x _ e => .inl e
    have hm : ∀ x cs, Blk w x 241 cs → ¬ x = d.p := fun x cs hx e => by subst e; exact Blk.ne_ hx h.at_ (by decide) rfl
    exact ⟨rfl, ⟨s.closed, m, bytes, kM, kW, (show DiskOk w' B N d s.closed m bytes kM kW from ⟨hl, ⟨h.ok.may.only ho hm, h.ok.were.only ho hm, h.ok.emp, h.ok.wild, h.ok.bit, h.ok.kM, h.ok.kW⟩, h.dk.only ho (fun y hy e => hpd (e ▸ hy)), h.db, h.calm, h.hz, h.few, h.st, h.lo, h.lt⟩).more⟩, ho'⟩
  | true =>
    rcases h.st with ⟨h0, rfl⟩ | ⟨hd1, tl1, h1, rfl⟩
    · refine (opened_none (5 * N) d.p d.g 0 kW s m bytes w h.at_ h.ok hdk h.calm hf (by unfold edge; omega) h0 hg (by omega) (by rw [h.db]; omega)).mono ?_
      rintro e w' ⟨rfl, hl, hd, ho⟩
      rw [h.db] at hd ho
      have ho' : Only d.has w w' := ho.mono fun x _ e => by
        rcases e with e | e
        · exact .inl e
        · exact .inr (.inl e)
      have hm : ∀ x cs, Blk w x 241 cs → ¬ (x = d.p ∨ x = d.db) := fun x cs hx e => by
        rcases e with e | e
        · subst e; exact Blk.ne_ hx h.at_ (by decide) rfl
        · subst e; exact Blk.ne_ hx h.dk.at_ (by decide) rfl
      exact ⟨rfl, ⟨s.closed, _, bytes, 0, kW, ⟨hl, ⟨h.ok.may.only ho hm, h.ok.were.only ho hm, h.ok.emp, h.ok.wild, h.ok.bit, h.ok.kM, h.ok.kW⟩, hd.more (by omega), h.db, ticks_calm h.calm 2, h.hz.mono (by omega), by omega, .inl ⟨h0, rfl⟩, h.lo, h.lt⟩⟩, ho'⟩
    · refine (opened_some (5 * N) d.p d.g 0 kW s m bytes hd1 tl1 w h.at_ h.ok hdk h.calm hf (by unfold edge; omega) h1 (h.hz.heads hd1 (by rw [h1]; simp)).1 (by omega)).mono ?_
      rintro e w' ⟨may', were', xb, dk, rd, rfl, hl, hok, hnew, _, _, _, hd, ho⟩
      rw [h.db] at hd ho
      exact ⟨rfl, ⟨_, _, bytes, 1, kW + 1, ⟨hl, hok, hd.more (by omega), h.db, ticks_calm h.calm 3, h.hz.mono (by omega), by omega, .inr ⟨hd1, tl1, h1, rfl⟩, h.lo, h.lt⟩⟩, ho⟩
end
end Go.Proofs.YtemondlgcmpbbaaGreatDoor
