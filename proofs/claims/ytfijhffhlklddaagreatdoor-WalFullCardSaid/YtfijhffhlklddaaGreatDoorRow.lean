/-
  What a row's list of package variables gives the walks: the errors and the table are laid.
-/
import Derived.Test.YtfijhffhlklddaaGreatDoorEnv
import Derived.Test.YtfijhffhlklddaaGreatDoorRows
import Derived.Stop.LaidTwo
import Derived.Stop.Joined
import Derived.LaidSub
import Derived.LaidLaws
import Derived.Lib.LaidTab
namespace Go.Proofs.YtfijhffhlklddaaGreatDoor
open Go.RowKit

theorem own : ownKnob Tryz.prog.godebug = none := by kernel_rfl
theorem nt_star : "*" ++ "errors.errorString" = "*errors.errorString" := by decide
theorem row_es (u : TypeId) (h : Tryz.prog.typeName? 3 u = some "*errors.errorString") : u = 252 :=
  typeName_ptr_named (nm := "errors.errorString") (by rw [nt_star]; kernel_rfl) (by kernel_rfl) (by decide) u (by rw [nt_star]; exact h)

def TextAt (W : World) (a : Addr) (x : List UInt8) : Prop := ∃ s : ByteArray, W.cell? a = some (.string s) ∧ s.data.toList = x
theorem TextAt.ne {W : World} {a b : Addr} {x y : List UInt8} (h : TextAt W a x) (k : TextAt W b y) (hxy : x ≠ y) : a ≠ b := by
  rintro rfl
  obtain ⟨s, h1, rfl⟩ := h
  obtain ⟨s', k1, rfl⟩ := k
  rw [h1] at k1
  cases k1
  exact hxy rfl

abbrev sd (x : List UInt8) : DataW Unit := .iface "*errors.errorString" (.ptr (.agg [.lit (.string x)]))
/-- Two errors that stand on the list. -/
theorem pair_of {W : World} {n0 n1 : String} {x0 x1 : List UInt8} {g0 g1 : Nat} (h : laidMetH Tryz.prog Rows.walNoneRow.laid W)
    (hf : Rows.walNoneRow.laid.filter (fun x => [n0, n1].contains x.1) = [(n0, sd x0), (n1, sd x1)])
    (hg0 : Tryz.prog.globalNamed n0 = some g0) (ht0 : (Tryz.prog.globals[g0]?).map (·.type) = some 89)
    (hg1 : Tryz.prog.globalNamed n1 = some g1) (ht1 : (Tryz.prog.globals[g1]?).map (·.type) = some 89) :
    ∃ a0 a1, SentAt W.heap.size W g0 a0 ∧ SentAt W.heap.size W g1 a1 ∧ a0 ≠ a1 ∧ TextAt W a0 x0 ∧ TextAt W a1 x1 := by
  have h1 := h.filter (fun x => [n0, n1].contains x.1)
  rw [hf, MakeChecks.laidMetH_plain _ _ _ (by rfl)] at h1
  obtain ⟨a0, a1, s0, s1, c0, c1, t0, t1, hv0, hv1, hc0, hs0, _, hc1, hs1, _, hne, hb0, hb1⟩ :=
    laid_sentinels2 h1 hg0 ht0 hg1 ht1 Tryz.underlying89 row_es Tryz.underlying252 Tryz.underlying270 rfl rfl Tryz.underlying9 (by kernel_rfl) (by kernel_rfl)
  have lt : ∀ (b : Nat) (o : Obj), W.heap[b]? = some o → b < W.heap.size := fun b o hb => by
    obtain ⟨hlt, _⟩ := Array.getElem?_eq_some_iff.1 hb
    exact hlt
  exact ⟨a0, a1, ⟨by simpa using World.var?_cell hg0 hv0 0, lt _ _ hb0, c0, t0, hb0⟩, ⟨by simpa using World.var?_cell hg1 hv1 0, lt _ _ hb1, c1, t1, hb1⟩, hne, ⟨s0, hc0, hs0⟩, ⟨s1, hc1, hs1⟩⟩

theorem crc_of {W : World} (h : laidMetH Tryz.prog Rows.walNoneRow.laid W) : CrcLaid W := by
  have h1 := h.filter (fun x => ["pannier/crc.table"].contains x.1)
  have hf : Rows.walNoneRow.laid.filter (fun x => ["pannier/crc.table"].contains x.1) = [("pannier/crc.table", Lib.tabData .u32 (List.map (fun n : Nat => (n : Int)) crcTab))] := by kernel_rfl
  rw [hf, MakeChecks.laidMetH_plain _ _ _ (by rfl)] at h1
  have gt : Tryz.prog.globalNamed "pannier/crc.table" = some 8 := by kernel_rfl
  have T := Lib.tabIs_of_head (rest := []) gt (t := 185) (e := 32) (by kernel_rfl) Tryz.underlying185 Tryz.underlying32 (by kernel_rfl) (by kernel_rfl) h1
  intro i hi
  rw [T.cell gt i (by simpa [crcTab] using hi)]
  simp [List.getD_eq_getElem?_getD, hi, show crcTab.length = 16 from rfl]

set_option maxRecDepth 100000 in
theorem env_of {W : World} (h : laidMetH Tryz.prog Rows.walNoneRow.laid W) (hsh : W.ShapedOpen Tryz.prog) : ∃ E, Env E W.heap.size W := by
  obtain ⟨dD, dA, k1, k2, n4, _, _⟩ := pair_of (n0 := "pannier/disk.errDead") (n1 := "pannier/disk.errArg") (x0 := [105, 116, 32, 99, 114, 97, 115, 104, 101, 100]) (x1 := [110, 111, 32, 115, 117, 99, 104, 32, 115, 101, 99, 116, 111, 114]) (g0 := 7) (g1 := 0) h (by kernel_rfl) (by kernel_rfl) (by kernel_rfl) (by kernel_rfl) (by kernel_rfl)
  obtain ⟨tn, ot, k3, k4, n1, x1, x2⟩ := pair_of (n0 := "pannier/frame.errTorn") (n1 := "pannier/frame.errOther") (x0 := [110, 111, 116, 32, 119, 104, 111, 108, 101]) (x1 := [111, 102, 32, 97, 110, 111, 116, 104, 101, 114, 32, 114, 101, 99, 111, 114, 100]) (g0 := 1) (g1 := 2) h (by kernel_rfl) (by kernel_rfl) (by kernel_rfl) (by kernel_rfl) (by kernel_rfl)
  obtain ⟨sm, lD, k5, k6, _, x3, x4⟩ := pair_of (n0 := "pannier/frame.errSum") (n1 := "pannier/wal.errDead") (x0 := [97, 32, 119, 114, 111, 110, 103, 32, 115, 117, 109]) (x1 := [97, 32, 119, 114, 105, 116, 101, 32, 102, 97, 105, 108, 101, 100]) (g0 := 3) (g1 := 4) h (by kernel_rfl) (by kernel_rfl) (by kernel_rfl) (by kernel_rfl) (by kernel_rfl)
  obtain ⟨lL, lF, k7, k8, n7, x5, x6⟩ := pair_of (n0 := "pannier/wal.errLong") (n1 := "pannier/wal.errFull") (x0 := [116, 111, 111, 32, 108, 111, 110, 103]) (x1 := [110, 111, 32, 114, 111, 111, 109]) (g0 := 5) (g1 := 6) h (by kernel_rfl) (by kernel_rfl) (by kernel_rfl) (by kernel_rfl) (by kernel_rfl)
  have hbase : 13 ≤ W.heap.size := by
    obtain ⟨o, o0, ho, _⟩ := hsh.2 13 (by decide +kernel) (by decide +kernel)
    obtain ⟨hlt, _⟩ := Array.getElem?_eq_some_iff.1 ho
    exact Nat.le_of_lt hlt
  exact ⟨⟨tn, ot, sm, dD, dA, lD, lL, lF⟩,
    { base := hbase, le := Nat.le_refl _, crc := crc_of h, torn := k3, other := k4, sum := k5, dDead := k1, dArg := k2, lDead := k6, lLong := k7, lFull := k8,
      ne1 := n1, ne2 := x1.ne x3 (by decide), ne3 := x2.ne x3 (by decide), ne4 := n4, ne5 := x4.ne x5 (by decide), ne6 := x4.ne x6 (by decide), ne7 := n7 }⟩
end Go.Proofs.YtfijhffhlklddaaGreatDoor
