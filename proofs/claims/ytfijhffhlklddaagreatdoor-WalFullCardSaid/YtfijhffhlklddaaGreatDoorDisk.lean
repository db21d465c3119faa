/-
  Contracts of package disk: a disk that is not dead, nor armed.
-/
import Derived.Test.YtfijhffhlklddaaGreatDoorMap
import Derived.Test.YtfijhffhlklddaaGreatDoorMake
namespace Go.Proofs.YtfijhffhlklddaaGreatDoor
open Go.RowKit

/-- w' is as w, but for the blocks F and for new ones. -/
structure Chg (F : List Nat) (w w' : World) : Prop where
  os : w'.os = w.os
  tape : w'.tape = w.tape
  output : w'.output = w.output
  size : w.heap.size ≤ w'.heap.size
  block : ∀ k, k < w.heap.size → k ∉ F → w'.heap[k]? = w.heap[k]?
theorem Chg.refl (F : List Nat) (w : World) : Chg F w w := ⟨rfl, rfl, rfl, Nat.le_refl _, fun _ _ _ => rfl⟩
theorem Chg.trans {F : List Nat} {a b c : World} (h : Chg F a b) (k : Chg F b c) : Chg F a c :=
  ⟨k.os.trans h.os, k.tape.trans h.tape, k.output.trans h.output, Nat.le_trans h.size k.size, fun i hi hF => (k.block i (Nat.lt_of_lt_of_le hi h.size) hF).trans (h.block i hi hF)⟩
theorem Chg.mono {F G : List Nat} {a b : World} (h : Chg F a b) (hs : ∀ k ∈ F, k ∈ G) : Chg G a b := ⟨h.os, h.tape, h.output, h.size, fun i hi hG => h.block i hi (fun hF => hG (hs i hF))⟩
theorem Below.chg {w w' : World} (h : Below w.heap.size w w') (F : List Nat) : Chg F w w' := ⟨h.os, h.tape, h.output, h.size, fun k hk _ => h.block k hk⟩
theorem grown_chg {w w' : World} {b : Nat} (h : w.grownBy w' (some b)) {F : List Nat} (hF : b ∈ F) : Chg F w w' := ⟨h.os, h.tape, h.output, h.size, fun k hk hk' => h.block k hk (fun e => by cases e; exact hk' hF)⟩
theorem setCell_chg (w : World) (a : Addr) (u : Value) {F : List Nat} (hF : a.block ∈ F) : Chg F w (w.setCell a u) :=
  ⟨rfl, rfl, rfl, by simp [World.setCell], fun k _ hk => Below.heap_setCell _ _ _ _ (fun e => hk (by rw [e]; exact hF))⟩
theorem Chg.below {F : List Nat} {w w' : World} (h : Chg F w w') {B : Nat} (hB : B ≤ w.heap.size) (hF : ∀ k ∈ F, B ≤ k) : Below B w w' :=
  ⟨h.os, h.tape, h.output, h.size, fun k hk => h.block k (by omega) (fun hk' => by have := hF k hk'; omega)⟩

/-- Where a disk and its maps lie. -/
structure Dk where
  b : Nat
  bm : Nat
  bc : Nat
abbrev Dk.F (d : Dk) : List Nat := [d.b, d.bm, d.bc]
abbrev Dk.p (d : Dk) : Value := .pointer (some ⟨d.b, 0, none⟩)
/-- A disk's state. -/
structure DiskS where
  n : Nat
  m : Sectors
  c : Sectors
  armed : Bool
  left : Int
  keep : Value
  dead : Bool
structure DiskAt (B : Nat) (w : World) (d : Dk) (D : DiskS) : Prop where
  cells : w.heap[d.b]? = some (.cells #[.int .i64 D.n, .map (some d.bm), .map (some d.bc), .bool D.armed, .int .i64 D.left, D.keep, .bool D.dead] 76 (0, 0))
  hm : MapAt w d.bm D.n D.m
  hc : MapAt w d.bc D.n D.c
  ne : d.bm ≠ d.bc
  n1 : 1 ≤ D.n
  n2 : D.n ≤ 4096
  b1 : B ≤ d.b
  b2 : B ≤ d.bm
  b3 : B ≤ d.bc
theorem DiskAt.ne1 {B : Nat} {w : World} {d : Dk} {D : DiskS} (h : DiskAt B w d D) : d.b ≠ d.bm := by
  intro e; obtain ⟨es, cl, hh⟩ := h.hm.isMap; rw [← e, h.cells] at hh; cases hh
theorem DiskAt.ne2 {B : Nat} {w : World} {d : Dk} {D : DiskS} (h : DiskAt B w d D) : d.b ≠ d.bc := by
  intro e; obtain ⟨es, cl, hh⟩ := h.hc.isMap; rw [← e, h.cells] at hh; cases hh
theorem DiskAt.lt {B : Nat} {w : World} {d : Dk} {D : DiskS} (h : DiskAt B w d D) : d.b < w.heap.size := (Array.getElem?_eq_some_iff.1 h.cells).1
theorem DiskAt.chg {B : Nat} {w w' : World} {d : Dk} {D : DiskS} (h : DiskAt B w d D) {F : List Nat} (hc : Chg F w w') (h1 : d.b ∉ F) (h2 : d.bm ∉ F) (h3 : d.bc ∉ F) : DiskAt B w' d D :=
  { cells := (hc.block _ h.lt h1).trans h.cells, hm := h.hm.of_block (hc.block _ h.hm.lt h2), hc := h.hc.of_block (hc.block _ h.hc.lt h3), ne := h.ne, n1 := h.n1, n2 := h.n2, b1 := h.b1, b2 := h.b2, b3 := h.b3 }
theorem DiskAt.below {B : Nat} {w w' : World} {d : Dk} {D : DiskS} (h : DiskAt B w d D) (hb : Below w.heap.size w w') : DiskAt B w' d D :=
  h.chg (Below.chg hb []) (by simp) (by simp) (by simp)
theorem DiskAt.F {B : Nat} {w : World} {d : Dk} {D : DiskS} (h : DiskAt B w d D) : ∀ k ∈ d.F, B ≤ k := by
  intro k hk
  simp only [List.mem_cons, List.mem_nil_iff, or_false] at hk
  rcases hk with rfl | rfl | rfl
  · exact h.b1
  · exact h.b2
  · exact h.b3

set_option maxRecDepth 100000 in
set_option maxHeartbeats 1000000 in
/-- New: sectors of noughts. -/
theorem New_ok (n : Nat) (h1 : 1 ≤ n) (h2 : n ≤ 4096) (w : World) :
    Calls Tryz.prog 9 #[.int .i64 n] w fun e w' => ∃ d : Dk, e = .returned (.tuple #[d.p, .int .i64 0]) ∧ DiskAt w.heap.size w' d ⟨n, fun _ => none, fun _ => none, false, 0, .slice none 0 0, false⟩ ∧ Below w.heap.size w w' := by
  have q1 : decide ((n : Int) < 1) = false := by rw [decide_eq_false_iff_not]; omega
  have q2 : decide ((4096 : Int) < n) = false := by rw [decide_eq_false_iff_not]; omega
  have hmm := @run_makeMap Tryz.prog
  go_enter Tryz.func9, Tryz.ntmps9
  go_wp2_with fail
  go_ret2
  refine ⟨⟨w.heap.size + 1 + 1, w.heap.size, w.heap.size + 1⟩, rfl, ?_, ?_⟩
  · have m1 := MapAt.made w n
    have m2 : MapAt ((w.alloc (.map #[] 0)).alloc (.map #[] 0)) (w.heap.size + 1) n (fun _ => none) := by
      have := MapAt.made (w.alloc (.map #[] 0)) n
      simpa using this
    refine { cells := ?_, hm := (m1.kept (World.grownBy_alloc _ _ none) (by simp)).kept (World.grownBy_alloc _ _ none) (by simp), hc := m2.kept (World.grownBy_alloc _ _ none) (by simp), ne := by simp, n1 := h1, n2 := h2, b1 := by simp; omega, b2 := by simp, b3 := by simp }
    have := heap_alloc_new ((w.alloc (.map #[] 0)).alloc (.map #[] 0)) (.cells #[.int .i64 n, .map (some w.heap.size), .map (some (w.heap.size + 1)), .bool false, .int .i64 0, .slice none 0 0, .bool false] 76)
    simpa using this
  · exact (((Below.refl _ _).alloc (Nat.le_refl _) _).alloc (by simp) _).alloc (by simp; omega) _

set_option maxRecDepth 100000 in
set_option maxHeartbeats 1000000 in
/-- New: no such size. -/
theorem New_bad (n : Int) (h : n < 1 ∨ 4096 < n) (w : World) :
    Calls Tryz.prog 9 #[.int .i64 n] w fun e w' => e = .returned (.tuple #[.pointer none, .int .i64 1]) ∧ w' = w := by
  by_cases h1 : n < 1
  · go_enter Tryz.func9, Tryz.ntmps9
    go_wp2_with fail
    go_ret2
    exact ⟨rfl, rfl⟩
  · have h2 : 4096 < n := by omega
    clear h
    go_enter Tryz.func9, Tryz.ntmps9
    go_wp2_with fail
    go_ret2
    exact ⟨rfl, rfl⟩

set_option maxRecDepth 100000 in
set_option maxHeartbeats 1000000 in
theorem may_ok {B : Nat} {d : Dk} {D : DiskS} (i : Int) (w : World) (h : DiskAt B w d D) (hd : D.dead = false) (h0 : 0 ≤ i) (h1 : i < D.n) :
    Calls Tryz.prog 53 #[d.p, .int .i64 i] w fun e w' => e = .returned .nilIface ∧ w = w' := by
  have c0 : w.cell? ⟨d.b, 0, none⟩ = some (.int .i64 D.n) := by rw [Lib.cell_of_heap h.cells]; rfl
  have c6 : w.cell? ⟨d.b, 6, none⟩ = some (.bool false) := by rw [Lib.cell_of_heap h.cells, hd]; rfl
  have q1 : decide (i < 0) = false := by rw [decide_eq_false_iff_not]; omega
  have q2 : decide ((D.n : Int) ≤ i) = false := by rw [decide_eq_false_iff_not]; omega
  clear h hd
  go_enter Tryz.func53, Tryz.ntmps53
  go_wp2_with fail
  go_ret
  exact ⟨rfl, rfl⟩

/-- A sector of noughts. -/
def zeroSector : ByteArray := bs (List.replicate 256 0)
theorem zeroSector_size : zeroSector.size = 256 := by rw [zeroSector, bs_size, List.length_replicate]
/-- A sector's durable bytes. -/
def DiskS.at (D : DiskS) (i : Int) : ByteArray := (D.m i).getD zeroSector
/-- A sector's bytes. -/
def DiskS.read (D : DiskS) (i : Int) : ByteArray := (D.c i).getD (D.at i)

set_option maxRecDepth 100000 in
set_option maxHeartbeats 1000000 in
theorem at_ok {B : Nat} {d : Dk} {D : DiskS} (i : Int) (w : World) (h : DiskAt B w d D) (h0 : 0 ≤ i) (h1 : i < D.n) :
    Calls Tryz.prog 51 #[d.p, .int .i64 i] w fun e w' => e = .returned (.string (D.at i)) ∧ Below w.heap.size w w' := by
  have c1 : w.cell? ⟨d.b, 1, none⟩ = some (.map (some d.bm)) := by rw [Lib.cell_of_heap h.cells]; rfl
  have hn := h.n2
  unfold DiskS.at
  cases hf : D.m i with
  | none =>
    have hl := h.hm.look_none h0 (by omega) hf
    have HZ := repeat_zeros 256 (by omega)
    clear h hf
    go_enter Tryz.func51, Tryz.ntmps51
    go_wp2_with fail
    refine (HZ _).mono ?_; rintro e w1 ⟨rfl, hb⟩
    go_wp2_with fail
    go_ret
    exact ⟨rfl, ((Below.refl w.heap.size w).alloc (Nat.le_refl _) _).trans (hb.mono (by simp))⟩
  | some x =>
    have hl := h.hm.look_some h0 (by omega) hf
    clear h hf
    go_enter Tryz.func51, Tryz.ntmps51
    go_wp2_with fail
    go_ret
    exact ⟨rfl, (Below.refl w.heap.size w).alloc (Nat.le_refl _) _⟩

set_option maxRecDepth 100000 in
set_option maxHeartbeats 1000000 in
theorem Read_ok {B : Nat} {d : Dk} {D : DiskS} (i : Int) (w : World) (h : DiskAt B w d D) (hd : D.dead = false) (h0 : 0 ≤ i) (h1 : i < D.n) :
    Calls Tryz.prog 20 #[d.p, .int .i64 i] w fun e w' => e = .returned (.tuple #[.string (D.read i), .int .i64 0]) ∧ Below w.heap.size w w' := by
  have c2 : w.cell? ⟨d.b, 2, none⟩ = some (.map (some d.bc)) := by rw [Lib.cell_of_heap h.cells]; rfl
  have hn := h.n2
  have HM := may_ok i w h hd h0 h1
  unfold DiskS.read
  cases hf : D.c i with
  | none =>
    have hl := h.hc.look_none h0 (by omega) hf
    have HA := fun (w' : World) (hb : Below w.heap.size w w') => at_ok i w' (h.below hb) h0 h1
    clear h hf
    go_enter Tryz.func20, Tryz.ntmps20
    go_wp2_with fail
    refine HM.mono ?_; rintro e w1 ⟨rfl, rfl⟩
    go_wp2_with fail
    refine (HA _ ((Below.refl w.heap.size w).alloc (Nat.le_refl _) _)).mono ?_; rintro e w1 ⟨rfl, hb⟩
    go_wp2_with fail
    go_ret2
    exact ⟨rfl, ((Below.refl w.heap.size w).alloc (Nat.le_refl _) _).trans (hb.mono (by simp))⟩
  | some x =>
    have hl := h.hc.look_some h0 (by omega) hf
    clear h hf
    go_enter Tryz.func20, Tryz.ntmps20
    go_wp2_with fail
    refine HM.mono ?_; rintro e w1 ⟨rfl, rfl⟩
    go_wp2_with fail
    go_ret2
    exact ⟨rfl, (Below.refl w.heap.size w).alloc (Nat.le_refl _) _⟩

set_option maxRecDepth 100000 in
set_option maxHeartbeats 1000000 in
theorem crashes_no {B : Nat} {d : Dk} {D : DiskS} (w : World) (h : DiskAt B w d D) (ha : D.armed = false) :
    Calls Tryz.prog 67 #[d.p] w fun e w' => e = .returned (.bool false) ∧ w = w' := by
  have c3 : w.cell? ⟨d.b, 3, none⟩ = some (.bool false) := by rw [Lib.cell_of_heap h.cells, ha]; rfl
  clear h ha
  go_enter Tryz.func67, Tryz.ntmps67
  go_wp2_with fail
  go_ret
  exact ⟨rfl, rfl⟩

set_option maxRecDepth 100000 in
set_option maxHeartbeats 1000000 in
theorem Size_ok {B : Nat} {d : Dk} {D : DiskS} (w : World) (h : DiskAt B w d D) :
    Calls Tryz.prog 42 #[d.p] w fun e w' => e = .returned (.int .i64 D.n) ∧ w = w' := by
  have c0 : w.cell? ⟨d.b, 0, none⟩ = some (.int .i64 D.n) := by rw [Lib.cell_of_heap h.cells]; rfl
  clear h
  go_enter Tryz.func42, Tryz.ntmps42
  go_wp2_with fail
  go_ret
  exact ⟨rfl, rfl⟩
end Go.Proofs.YtfijhffhlklddaaGreatDoor
