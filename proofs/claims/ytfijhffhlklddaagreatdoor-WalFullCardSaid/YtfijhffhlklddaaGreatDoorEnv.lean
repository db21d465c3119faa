/-
  What the package variables hold, and what stays.
-/
import Derived.Test.YtfijhffhlklddaaGreatDoorFrm
namespace Go.Proofs.YtfijhffhlklddaaGreatDoor
open Go.RowKit

/-- Where the errors of the program's packages lie. -/
structure Errs where
  torn : Addr
  other : Addr
  sum : Addr
  dDead : Addr
  dArg : Addr
  lDead : Addr
  lLong : Addr
  lFull : Addr

abbrev sent (a : Addr) : Value := .iface 252 (.pointer (some a))
/-- A package variable holds an error, which lies below B. -/
def SentAt (B : Nat) (w : World) (g : Nat) (a : Addr) : Prop := w.cell? ⟨g, 0, none⟩ = some (sent a) ∧ a.block < B ∧ ∃ c t, w.heap[a.block]? = some (.cells c t (0, 0))
structure Env (E : Errs) (B : Nat) (w : World) : Prop where
  base : 13 ≤ B
  le : B ≤ w.heap.size
  crc : CrcLaid w
  torn : SentAt B w 1 E.torn
  other : SentAt B w 2 E.other
  sum : SentAt B w 3 E.sum
  dDead : SentAt B w 7 E.dDead
  dArg : SentAt B w 0 E.dArg
  lDead : SentAt B w 4 E.lDead
  lLong : SentAt B w 5 E.lLong
  lFull : SentAt B w 6 E.lFull
  ne1 : E.torn ≠ E.other
  ne2 : E.torn ≠ E.sum
  ne3 : E.other ≠ E.sum
  ne4 : E.dDead ≠ E.dArg
  ne5 : E.lDead ≠ E.lLong
  ne6 : E.lDead ≠ E.lFull
  ne7 : E.lLong ≠ E.lFull

theorem SentAt.below {B : Nat} {w w' : World} {g : Nat} {a : Addr} (h : SentAt B w g a) (hb : Below B w w') (hg : g < B) : SentAt B w' g a := by
  obtain ⟨h1, h2, c, t, h3⟩ := h
  exact ⟨(hb.cell (p := ⟨g, 0, none⟩) hg).trans h1, h2, c, t, (hb.block _ h2).trans h3⟩
theorem Env.below {E : Errs} {B : Nat} {w w' : World} (h : Env E B w) (hb : Below B w w') : Env E B w' := by
  have h0 := h.base
  exact { base := h.base, le := Nat.le_trans h.le hb.size, crc := fun i hi => (hb.cell (p := ⟨8, i, none⟩) (show 8 < B by omega)).trans (h.crc i hi),
          torn := h.torn.below hb (by omega), other := h.other.below hb (by omega), sum := h.sum.below hb (by omega), dDead := h.dDead.below hb (by omega), dArg := h.dArg.below hb (by omega),
          lDead := h.lDead.below hb (by omega), lLong := h.lLong.below hb (by omega), lFull := h.lFull.below hb (by omega), ne1 := h.ne1, ne2 := h.ne2, ne3 := h.ne3, ne4 := h.ne4, ne5 := h.ne5, ne6 := h.ne6, ne7 := h.ne7 }
theorem below_drewN {B : Nat} (w : World) (n : Nat) : Below B w (w.drewN n) := ⟨rfl, rfl, rfl, Nat.le_refl _, fun _ _ => rfl⟩
theorem Env.drewN {E : Errs} {B : Nat} {w : World} (h : Env E B w) (n : Nat) : Env E B (w.drewN n) := h.below (below_drewN w n)
/-- What is as it was below a world's size is so below less. -/
theorem Env.grew {E : Errs} {B : Nat} {w w' : World} (h : Env E B w) (hb : Below w.heap.size w w') : Env E B w' := h.below (hb.mono h.le)
end Go.Proofs.YtfijhffhlklddaaGreatDoor
