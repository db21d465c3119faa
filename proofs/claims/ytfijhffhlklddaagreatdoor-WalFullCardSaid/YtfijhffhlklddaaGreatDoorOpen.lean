/-
  Contracts of package wal: Open.
-/
import Derived.Test.YtfijhffhlklddaaGreatDoorAppOk
namespace Go.Proofs.YtfijhffhlklddaaGreatDoor
open Go.RowKit

/-- The log's sectors, as they are read. -/
def DiskS.reg (D : DiskS) : List Bytes := (List.range (logsOf D.n)).map fun i : Nat => byt (D.read ((2 : Int) + (i : Int)))
theorem reg_length (D : DiskS) : D.reg.length = logsOf D.n := by simp [DiskS.reg]
theorem read_size256 {B : Nat} {w : World} {d : Dk} {D : DiskS} (h : DiskAt B w d D) (i : Int) : (D.read i).size = 256 := by
  obtain ⟨_, _, _, hw⟩ := h.hc
  unfold DiskS.read
  cases hi : D.c i with
  | none => exact at_size h i
  | some s => exact (hw i s hi).2.2
theorem LogAt.mono {B B' : Nat} {w : World} {l : Nat} {d : Dk} {S : LogS} (h : LogAt B w l d S) (hb : B' ≤ B) : LogAt B' w l d S := by
  refine { cells := h.cells, row := ⟨h.row.1, ?_⟩, b1 := Nat.le_trans hb h.b1, n2 := h.n2, u2 := h.u2, l2 := h.l2, r2 := h.r2 }
  rcases h.row.2 with hn | ⟨g, cap, cur, e, hg, r⟩
  · exact .inl hn
  · exact .inr ⟨g, cap, cur, e, Nat.le_trans hb hg, r⟩
theorem DiskAt.mono {B B' : Nat} {w : World} {d : Dk} {D : DiskS} (h : DiskAt B w d D) (hb : B' ≤ B) : DiskAt B' w d D :=
  { cells := h.cells, hm := h.hm, hc := h.hc, ne := h.ne, n1 := h.n1, n2 := h.n2, b1 := Nat.le_trans hb h.b1, b2 := Nat.le_trans hb h.b2, b3 := Nat.le_trans hb h.b3 }

abbrev logCells (d : Dk) (logs : Nat) (pg pgs : Int) (rv : Value) (next used : Nat) : Array Value := #[d.p, .int .i64 2, .int .i64 logs, .int .i64 pg, .int .i64 pgs, rv, .int .u64 next, .int .i64 used, .bool false]

set_option maxRecDepth 100000 in
theorem Open_nil (first : Int) (w : World) :
    Calls Tryz.prog 10 #[.pointer none, .int .u32 first] w fun e w' => e = .returned (.tuple #[.pointer none, .int .i64 1]) ∧ w = w' := by
  go_enter Tryz.func10, Tryz.ntmps10
  go_wp2_with fail
  go_ret2
  exact ⟨rfl, rfl⟩

/-- How many sectors a log says that it uses. -/
def usedOf (W : World) (x : Nat) : Nat := (intOf ((W.cell? ⟨x + 1, 7, none⟩).getD undef)).toNat
/-- What holds while the records are read. -/
structure Scanning (w : World) (d : Dk) (L : Nat) (pg pgs : Int) (x g : Nat) (reg : List Bytes) (first nx : Nat) (u least : Nat) (rs : List Bytes) (rv : Value) (W : World) : Prop where
  ul : u ≤ L
  ll : least ≤ most + 1
  cells : W.heap[x + 1]? = some (.cells (logCells d L pg pgs rv nx u) 83 (0, 0))
  row : W.ownsRow w.heap.size 9 1 rv rs.length (strs rs)
  rl : rs.length ≤ u
  ss : StrsAt W g 0 (reg.map bs)
  ne : rv.ownBlock ≠ some g
  below : Below w.heap.size w W
  scan : ∀ rs' u', Scan (reg.drop u) least rs' u' → Scan reg first (rs ++ rs') (u + u')
/-- Where the reading of records ends. -/
theorem Scanning.fin {w : World} {d : Dk} {L : Nat} {pg pgs : Int} {x g : Nat} {reg : List Bytes} {first nx u least : Nat} {rs : List Bytes} {rv : Value} {W : World} (h : Scanning w d L pg pgs x g reg first nx u least rs rv W)
    (hx : w.heap.size ≤ x) (hL : L ≤ 5000) (hn : nx ≤ most) (hs : ∀ r num n, readS (reg.drop u) = some (r, num, n) → num < least ∨ most < num) :
    ∃ l S, Ending.returned (.tuple #[.pointer (some ⟨x + 1, 0, none⟩), .int .i64 0]) = .returned (.tuple #[lp l, .int .i64 0]) ∧ w.heap.size ≤ l ∧ LogAt w.heap.size W l d S ∧
      S.logs = L ∧ S.next = nx ∧ S.dead = false ∧ Scan reg first S.recs S.used ∧ S.used ≤ L ∧ S.recs.length ≤ L ∧ Below w.heap.size w W := by
  have h1 := h.ul
  have h2 := h.rl
  refine ⟨x + 1, ⟨L, pg, pgs, rv, rs, nx, u, false⟩, rfl, by omega, { cells := h.cells, row := h.row, b1 := by omega, n2 := by show nx ≤ most + 1; omega, u2 := by show u ≤ 5000; omega, l2 := hL, r2 := by show rs.length ≤ 100000; omega }, rfl, rfl, rfl, ?_, h.ul, by show rs.length ≤ L; omega, h.below⟩
  have := h.scan [] 0 (.stop hs)
  simpa using this
theorem Scanning.grew {w : World} {d : Dk} {L : Nat} {pg pgs : Int} {x g : Nat} {reg : List Bytes} {first nx u least : Nat} {rs : List Bytes} {rv : Value} {W W' : World} (h : Scanning w d L pg pgs x g reg first nx u least rs rv W) (hb : Below W.heap.size W W') :
    Scanning w d L pg pgs x g reg first nx u least rs rv W' :=
  { ul := h.ul, ll := h.ll, cells := (hb.block _ (Array.getElem?_eq_some_iff.1 h.cells).1).trans h.cells, row := row_chg h.row (Below.chg hb []) (by simp), rl := h.rl, ss := h.ss.below hb, ne := h.ne, below := h.below.trans (hb.mono h.below.size), scan := h.scan }
theorem strsAt_drop {W : World} {g : Nat} {ss : List ByteArray} (h : StrsAt W g 0 ss) (u : Nat) : StrsAt W g u (ss.drop u) :=
  ⟨h.1, fun j hj => by
    rw [List.length_drop] at hj
    have := h.2 (u + j) (by omega)
    rw [Nat.zero_add] at this
    rw [this]
    congr 2
    simp [List.getD_eq_getElem?_getD, List.getElem?_drop]⟩

/-- What holds while the sectors are read. -/
def Reading (w : World) (d : Dk) (L : Nat) (pg pgs : Int) (x : Nat) (v : Value) (n : Nat) (xs : List Value) (nxt : Nat) (W : World) : Prop :=
  W.ownsRow w.heap.size 9 1 v n xs ∧ W.heap[x + 1]? = some (.cells (logCells d L pg pgs (.slice none 0 0) nxt 0) 83 (0, 0)) ∧
    W.heap[x]? = some (.cells #[.int .i64 2, .int .i64 L, .int .i64 pg, .int .i64 pgs] 78 (0, 0)) ∧ Below w.heap.size w W
theorem Reading.set {w W : World} {d : Dk} {L : Nat} {pg pgs : Int} {x : Nat} {v : Value} {n : Nat} {xs : List Value} {nxt : Nat} (h : Reading w d L pg pgs x v n xs nxt W) (hx : w.heap.size ≤ x) {N : Int} {nxt' : Nat} (hN : N = (nxt' : Int)) :
    Reading w d L pg pgs x v n xs nxt' (W.setCell ⟨x + 1, 6, none⟩ (.int .u64 N)) := by
  obtain ⟨h1, h2, h3, h4⟩ := h
  have hc : Chg [x + 1] W (W.setCell ⟨x + 1, 6, none⟩ (.int .u64 N)) := setCell_chg W ⟨x + 1, 6, none⟩ _ (by simp)
  subst hN
  refine ⟨row_chg h1 hc (fun k hk e => Lib.ownBlock_ne h1 h2 (by decide) (by simp at e; rw [← e]; exact hk)), ?_, (hc.block x (Array.getElem?_eq_some_iff.1 h3).1 (by simp)).trans h3, h4.setCell (p := ⟨x + 1, 6, none⟩) (show w.heap.size ≤ x + 1 by omega) _⟩
  simp [World.setCell, Array.getElem?_modify, h2]

set_option maxRecDepth 100000 in
set_option maxHeartbeats 16000000 in
theorem Open_ok {E : Errs} {B : Nat} {d : Dk} {D : DiskS} (first : Nat) (w : World) (henv : Env E B w) (hk : DiskAt B w d D) (hdd : D.dead = false) (hn : 32 ≤ D.n) (hf0 : first ≠ 0) (hf : first < 4294967296) (hnx : nextS first D.reg ≤ most) :
    Calls Tryz.prog 10 #[d.p, .int .u32 first] w fun e w' => ∃ l S, e = .returned (.tuple #[lp l, .int .i64 0]) ∧ w.heap.size ≤ l ∧ LogAt w.heap.size w' l d S ∧
      S.logs = logsOf D.n ∧ S.next = nextS first D.reg ∧ S.dead = false ∧ Scan D.reg first S.recs S.used ∧ S.used ≤ logsOf D.n ∧ S.recs.length ≤ logsOf D.n ∧ Below w.heap.size w w' := by
  have HSZ := Size_ok w hk
  have HLY := Lay_ok D.n hn hk.n2 w
  have HE := Lib.hid henv
  have HK := Lib.hid hk
  have hn2 := hk.n2
  have q1 : ((first : Int) == 0) = false := by rw [beq_eq_false_iff_ne]; omega
  have q2 : IntKind.u64.wrap (first : Int) = first := by rw [IntKind.wrap_u64]; omega
  obtain ⟨L, hL⟩ : ∃ L, L = logsOf D.n := ⟨_, rfl⟩
  have hL2 : 2 + L ≤ D.n := by rw [hL]; unfold logsOf; omega
  have hL3 : L ≤ 5000 := by omega
  have hRL : D.reg.length = L := by rw [reg_length, hL]
  rw [← hL] at HLY ⊢
  obtain ⟨reg, hreg⟩ : ∃ reg, reg = D.reg := ⟨_, rfl⟩
  rw [← hreg] at hnx hRL ⊢
  have HREG := Lib.hid hreg
  have HNX := Lib.hid hnx
  have HRL := Lib.hid hRL
  have HLD := Lib.hid hL
  clear henv hk hreg hnx hRL hL hf0
  generalize ((2 + L : Nat) : Int) = pg at *
  generalize ((D.n - 2 - L : Nat) : Int) = pgs at *
  go_enter Tryz.func10, Tryz.ntmps10
  go_wp2_with fail
  refine HSZ.mono ?_; rintro e w1 ⟨rfl, rfl⟩
  go_wp2_with fail
  refine HLY.mono ?_; rintro e w1 ⟨rfl, hb1⟩
  go_wp2_with fail
  obtain ⟨x, hx⟩ : ∃ x, w1.heap.size = x := ⟨_, rfl⟩
  obtain ⟨w2, hw2⟩ : ∃ w2, w2 = (w1.alloc (.cells #[.int .i64 2, .int .i64 L, .int .i64 pg, .int .i64 pgs] 78)).alloc (.cells #[d.p, .int .i64 2, .int .i64 L, .int .i64 pg, .int .i64 pgs, .slice none 0 0, .int .u64 first, .int .i64 0, .bool false] 83) := ⟨_, rfl⟩
  have hxw : w.heap.size ≤ x := by rw [← hx]; exact hb1.size
  have hL2' : w2.heap[x + 1]? = some (.cells (logCells d L pg pgs (.slice none 0 0) first 0) 83 (0, 0)) := by
    rw [hw2, ← hx]
    have e : w1.heap.size + 1 = (w1.alloc (.cells #[.int .i64 2, .int .i64 L, .int .i64 pg, .int .i64 pgs] 78)).heap.size := by simp
    rw [e]
    exact heap_alloc_new _ _
  have hX2' : w2.heap[x]? = some (.cells #[.int .i64 2, .int .i64 L, .int .i64 pg, .int .i64 pgs] 78 (0, 0)) := by
    rw [hw2, ← hx, Lib.alloc_old _ _ _ (by simp)]
    exact heap_alloc_new w1 _
  have hB2 : Below w.heap.size w w2 := by rw [hw2]; exact (hb1.alloc hb1.size _).alloc (by have := hb1.size; simp; omega) _
  rw [hx, ← hw2]
  have H0 := Lib.hid (show nextS first (reg.take 0) = first by simp [nextS])
  have hLL := Lib.hid hL2'
  have hXX := Lib.hid hX2'
  clear hx hw2 hL2' hX2' HSZ HLY
  have hm0 := nums_0
  have hm1 := nums_1
  go_loopw [9, 43] (fun v i wr => ∃ j : Nat, j ≤ L ∧ i = .int .i64 j ∧ wr.ownsRow w.heap.size 9 1 v j (strs (reg.take j)) ∧ wr.heap[x + 1]? = some (.cells (logCells d L pg pgs (.slice none 0 0) (nextS first (reg.take j)) 0) 83 (0, 0)) ∧
      wr.heap[x]? = some (.cells #[.int .i64 2, .int .i64 L, .int .i64 pg, .int .i64 pgs] 78 (0, 0)) ∧ Below w.heap.size w wr)
    (fun _ i _ => L - (intOf i).toNat)
  case atStart => exact ⟨0, Nat.zero_le _, rfl, World.ownsRow_nil _ _ _ _, by rw [H0.out]; exact hLL.out, hXX.out, hB2⟩
  case round =>
    obtain ⟨j, hj, rfl, hv, hlr, hxr, hBr⟩ := hrel
    clear hLL hXX hB2
    by_cases hlt : j < L
    · have hkr := HK.out.below hBr
      have HR := Read_ok ((2 : Int) + j) wr hkr hdd (by omega) (by omega)
      obtain ⟨s, hs⟩ : ∃ s, s = D.read ((2 : Int) + j) := ⟨_, rfl⟩
      have hsz : s.size = 256 := by rw [hs]; exact read_size256 HK.out _
      have hjr : j < reg.length := by rw [HRL.out]; exact hlt
      have hrj : reg.take (j + 1) = reg.take j ++ [byt s] := by
        rw [List.take_succ_eq_append_getElem hjr]
        congr 1
        have : reg[j]? = some (byt s) := by
          rw [HREG.out, DiskS.reg, List.getElem?_map, List.getElem?_range (by rw [← HLD.out]; exact hlt), hs]; rfl
        rw [List.getElem?_eq_getElem hjr] at this
        rw [Option.some.inj this]
      rw [← hs] at HR
      obtain ⟨nx, hnx⟩ : ∃ nx, nx = nextS first (reg.take j) := ⟨_, rfl⟩
      obtain ⟨n1, hn1⟩ : ∃ n1, n1 = (endsS (byt s)).1 := ⟨_, rfl⟩
      obtain ⟨n2, hn2'⟩ : ∃ n2, n2 = (endsS (byt s)).2 := ⟨_, rfl⟩
      have hbump := Lib.hid (show nextS first (reg.take (j + 1)) = bump (bump nx n1) n2 by
        rw [hrj, nextS, List.foldl_append, hnx, hn1, hn2']; rfl)
      have HEN := ends_any s hsz
      rw [← hn1, ← hn2'] at HEN
      rw [← hnx] at hlr
      have HRJ := Lib.hid hrj
      have c0 : wr.cell? ⟨x, 0, none⟩ = some (.int .i64 2) := by rw [Lib.cell_of_heap hxr]; rfl
      have x1 : IntKind.i64.wrap ((2 : Int) + j) = 2 + j := IntWalk.i64_in _ (by omega)
      have hwsz : w.heap.size ≤ wr.heap.size := hBr.size
      have hxlt : x + 1 < wr.heap.size := (Array.getElem?_eq_some_iff.1 hlr).1
      obtain ⟨i0, hi, hz0, hz1, hz2⟩ := info_parts infoStr
      clear hs hsz hrj hnx hn1 hn2' hkr
      go_wp2_with fail
      refine HR.mono ?_; rintro e w3 ⟨rfl, hb3⟩
      have hl3 := (hb3.block (x + 1) hxlt).trans hlr
      have hx3 := (hb3.block x (by omega)).trans hxr
      have hv3 := row_chg hv (Below.chg hb3 []) (by simp)
      have hB3 := hBr.trans (hb3.mono hwsz)
      have hw3 : w.heap.size ≤ w3.heap.size := hB3.size
      have hxlt3 : x + 1 < w3.heap.size := Nat.lt_of_lt_of_le hxlt hb3.size
      have hone : ∀ u ∈ [Value.string s], u.oneCell' = true := by simp [Value.oneCell']
      clear hlr hxr hv hb3 HR hBr
      go_wp2_with (at_builtin; refine wpList_append_own_at _ rfl _ _ 34 rfl w.heap.size 9 i0 (.string ⟨#[]⟩) 1 16 Tryz.underlying34 hi hz0 hz1 hz2 rfl (by decide) _ _ _ rfl (hv3.alloc _) ⟨w3.heap.size, 0, none⟩ 1 1 [.string s] rfl rfl (World.news_of_block (cs := #[.string s]) (t := 9) (fr := (0, 0)) (heap_alloc_new w3 _)) hone (by unfold maxLen; omega) (by omega) (by simp; omega) ?_)
      intro v' w5 hown5 hgrow5 hnil5 hat5
      have hl5 : w5.heap[x + 1]? = some (.cells (logCells d L pg pgs (.slice none 0 0) nx 0) 83 (0, 0)) :=
        (hgrow5.block (x + 1) (by simp; omega) (fun e => Lib.ownBlock_ne hv3 hl3 (by decide) e.symm)).trans ((Lib.alloc_old _ _ _ hxlt3).trans hl3)
      have hx5 : w5.heap[x]? = some (.cells #[.int .i64 2, .int .i64 L, .int .i64 pg, .int .i64 pgs] 78 (0, 0)) :=
        (hgrow5.block x (by simp; omega) (fun e => Lib.ownBlock_ne hv3 hx3 (by decide) e.symm)).trans ((Lib.alloc_old _ _ _ (by omega)).trans hx3)
      have hB5 : Below w.heap.size w w5 := (hB3.alloc hw3 _).grown hgrow5 (by simp; omega) (fun k hk => (hv3.lt k hk).1)
      have hw5 : w.heap.size ≤ w5.heap.size := hB5.size
      have hxlt5 : x + 1 < w5.heap.size := (Array.getElem?_eq_some_iff.1 hl5).1
      have hO5 : w5.ownsRow w.heap.size 9 1 v' (j + 1) (strs (reg.take (j + 1))) := by
        have e1 : strs (reg.take (j + 1)) = strs (reg.take j) ++ [.string s] := by
          rw [HRJ.out]; simp [bs_of]
        rw [e1, show strs (reg.take j) = (reg.map fun r => Value.string (bs r)).take j from List.map_take]; exact hown5
      clear hown5 hgrow5 hnil5 hat5 hl3 hx3 hv3 hB3 hw3 hxlt3
      go_wp2_with fail
      refine (HEN _).mono ?_; rintro e w6 ⟨rfl, hb6⟩
      have hl6 := (hb6.block (x + 1) hxlt5).trans hl5
      have hx6 := (hb6.block x (by omega)).trans hx5
      have hv6 := row_chg hO5 (Below.chg hb6 []) (by simp)
      have hB6 := hB5.trans (hb6.mono hw5)
      have k6 : w6.cell? ⟨x + 1, 6, none⟩ = some (.int .u64 nx) := by rw [Lib.cell_of_heap hl6]; rfl
      have f6 : w6.frozen? ⟨x + 1, 6, none⟩ = false := Lib.frozen_of_heap hl6 6
      have hrne := Lib.ownBlock_ne hv6 hl6 (by decide)
      have HV6 := Lib.hid hv6
      have HL6 := Lib.hid hl6
      have HX6 := Lib.hid hx6
      clear hl5 hx5 hO5 hb6 hB5 hw5 hxlt5 HEN hl6 hx6 hv6
      have qA : decide ((n1 : Int) ≤ 2147483648) = decide (n1 ≤ most) := by unfold most; congr 1; apply propext; omega
      have qB : decide ((n2 : Int) ≤ 2147483648) = decide (n2 ≤ most) := by unfold most; congr 1; apply propext; omega
      by_cases hA : n1 ≤ most <;> by_cases hBB : n2 ≤ most
      all_goals
        have HA := Lib.hid hA
        have HBB := Lib.hid hBB
        simp only [hA, hBB, decide_true, decide_false] at qA qB
        unfold most at hA hBB
        go_wp2_with fail
        refine wp_loop_rounds 3 ?_
        rw [rounds_succ]
        go_wp2_with fail
        rw [rounds_succ]
        go_wp2_with fail
        rw [rounds_succ]
        go_wp2_with fail
      all_goals refine ⟨⟨j + 1, by omega, rfl, ?_⟩, by simp [intOf]; omega⟩
      all_goals rw [hbump.out]
      all_goals unfold bump
      · rw [if_pos HA.out, if_pos HBB.out]
        exact ((show Reading w d L pg pgs x v' (j + 1) (strs (reg.take (j + 1))) nx w6 from ⟨HV6.out, HL6.out, HX6.out, hB6⟩).set hxw (nxt' := max nx (n1 + 1)) (by omega)).set hxw (nxt' := max (max nx (n1 + 1)) (n2 + 1)) (by omega)
      · rw [if_pos HA.out, if_neg HBB.out]
        exact (show Reading w d L pg pgs x v' (j + 1) (strs (reg.take (j + 1))) nx w6 from ⟨HV6.out, HL6.out, HX6.out, hB6⟩).set hxw (nxt' := max nx (n1 + 1)) (by omega)
      · rw [if_neg HA.out, if_pos HBB.out]
        exact (show Reading w d L pg pgs x v' (j + 1) (strs (reg.take (j + 1))) nx w6 from ⟨HV6.out, HL6.out, HX6.out, hB6⟩).set hxw (nxt' := max nx (n2 + 1)) (by omega)
      · rw [if_neg HA.out, if_neg HBB.out]
        exact (show Reading w d L pg pgs x v' (j + 1) (strs (reg.take (j + 1))) nx w6 from ⟨HV6.out, HL6.out, HX6.out, hB6⟩)
    · obtain rfl : j = L := by omega
      have htk : reg.take j = reg := by rw [List.take_of_length_le]; rw [HRL.out]; omega
      rw [htk] at hv hlr
      obtain ⟨nx, hnx⟩ : ∃ nx, nx = nextS first reg := ⟨_, rfl⟩
      rw [← hnx] at hlr
      have hnm : nx ≤ most := by rw [hnx]; exact HNX.out
      have q5 : decide ((2147483648 : Int) < nx) = false := by rw [decide_eq_false_iff_not]; unfold most at hnm; omega
      have HNXE := Lib.hid hnx
      have k6 : wr.cell? ⟨x + 1, 6, none⟩ = some (.int .u64 nx) := by rw [Lib.cell_of_heap hlr]; rfl
      have HV := Lib.hid hv
      have HL1 := Lib.hid hlr
      clear htk hnx hv hlr hxr
      go_wp2_with fail
      have hrows := HV.out
      have hreglen : reg.length = j := HRL.out
      rw [← hreglen] at hrows
      obtain ⟨g, cap, e9, hg, hcap, hss, curg, hgc⟩ := row_strs hrows (by rw [hreglen, HLD.out]; unfold logsOf; omega)
      subst e9
      rw [hreglen] at hcap ⊢
      have hS0 : Scanning w d j pg pgs x g reg first nx 0 first [] (.slice none 0 0) wr :=
        { ul := Nat.zero_le _, ll := by have := le_nextS reg first; rw [← HNXE.out] at this; omega, cells := HL1.out, row := World.ownsRow_nil _ _ _ _, rl := Nat.le_refl _, ss := hss, ne := by simp [Value.ownBlock], below := hBr, scan := fun rs' u' h => by simpa using h }
      have HS0 := Lib.hid hS0
      have hgx : g ≠ x + 1 := by
        intro e
        have h1 := HL1.out
        rw [← e, hgc] at h1
        simp at h1
      have hglt : g < wr.heap.size := hss.1
      clear hS0 hss hrows hgc k6 hBr hreglen
      go_loopw [15] (fun t W => ∃ (u least : Nat) (rs : List Bytes) (rv : Value), t = .int .u64 least ∧ Scanning w d j pg pgs x g reg first nx u least rs rv W) (fun _ W => j - usedOf W x)
      case atStart => exact ⟨0, first, [], .slice none 0 0, rfl, HS0.out⟩
      case round =>
        obtain ⟨u, least, rs, rv, rfl, hS⟩ := hrel
        have hul := hS.ul
        have hll := hS.ll
        have k7 : wr.cell? ⟨x + 1, 7, none⟩ = some (.int .i64 u) := by rw [Lib.cell_of_heap hS.cells]; rfl
        have hmeas := Lib.hid (show usedOf wr x = u by unfold usedOf; rw [k7]; simp [intOf])
        have HS := Lib.hid hS
        clear hS HS0
        by_cases hlt : u < j
        · have hdl : (reg.drop u).length = j - u := by rw [List.length_drop]; rw [HRL.out]
          have HRd := Read_any E B ((reg.map bs).drop u) g u (cap - u) wr (HE.out.below (HS.out.below.mono HE.out.le)) (by rw [List.length_drop, List.length_map, HRL.out]; omega) (strsAt_drop HS.out.ss u) (by rw [List.length_drop, List.length_map, HRL.out]; omega) (by rw [List.length_drop, List.length_map, HRL.out]; omega)
          have em : ((reg.map bs).drop u).map byt = reg.drop u := by
            rw [List.map_drop, List.map_map]
            congr 1
            exact (List.map_congr_left (fun a _ => bs_data a)).trans (List.map_id _)
          have el : ((reg.map bs).drop u).length = j - u := by rw [List.length_drop, List.length_map, HRL.out]
          rw [em, el] at HRd
          clear em el
          cases hrd : readS (reg.drop u) with
          | none =>
            rw [hrd] at HRd
            have HF := Lib.hid (fun (W : World) (h : Scanning w d j pg pgs x g reg first nx u least rs rv W) => h.fin hxw hL3 hnm (fun r num n e => by rw [hrd] at e; cases e))
            clear hrd
            go_wp2_with fail
            refine HRd.mono ?_; rintro e w3 ⟨rfl, hb3⟩
            have HS3 := Lib.hid (HS.out.grew hb3)
            clear hb3
            go_wp2_with fail
            go_ret2
            rw [← HNXE.out]
            exact HF.out _ HS3.out
          | some y =>
            obtain ⟨r, num, n⟩ := y
            rw [hrd] at HRd
            obtain ⟨z1, z2, z3, z4, z5, z6⟩ := readS_some hrd
            rw [hdl] at z2
            have hnum : num < 4294967296 := by rw [← z4 0 (by omega)]; exact numS_lt _
            have y1 : IntKind.u64.wrap (num : Int) = num := by rw [IntKind.wrap_u64]; omega
            clear z3 z4 z5 z6
            by_cases hc1 : num < least
            · have HF := Lib.hid (fun (W : World) (h : Scanning w d j pg pgs x g reg first nx u least rs rv W) => h.fin hxw hL3 hnm (fun r' num' n' e => by rw [hrd] at e; cases e; exact .inl hc1))
              have y2 : decide ((num : Int) < least) = true := by rw [decide_eq_true_iff]; omega
              have y2n : decide (num < least) = true := by rw [decide_eq_true_iff]; omega
              clear hrd hc1
              go_wp2_with fail
              refine HRd.mono ?_; rintro e w3 ⟨rfl, hb3⟩
              have HS3 := Lib.hid (HS.out.grew hb3)
              clear hb3
              go_wp2_with fail
              go_ret2
              rw [← HNXE.out]
              exact HF.out _ HS3.out
            · by_cases hc2 : most < num
              · have HF := Lib.hid (fun (W : World) (h : Scanning w d j pg pgs x g reg first nx u least rs rv W) => h.fin hxw hL3 hnm (fun r' num' n' e => by rw [hrd] at e; cases e; exact .inr hc2))
                have y2 : decide ((num : Int) < least) = false := by rw [decide_eq_false_iff_not]; omega
                have y2n : decide (num < least) = false := by rw [decide_eq_false_iff_not]; omega
                have y3 : decide ((2147483648 : Int) < num) = true := by rw [decide_eq_true_iff]; unfold most at hc2; omega
                have y3n : decide (2147483648 < num) = true := by rw [decide_eq_true_iff]; unfold most at hc2; omega
                clear hrd hc1 hc2
                go_wp2_with fail
                refine HRd.mono ?_; rintro e w3 ⟨rfl, hb3⟩
                have HS3 := Lib.hid (HS.out.grew hb3)
                clear hb3
                go_wp2_with fail
                go_ret2
                rw [← HNXE.out]
                exact HF.out _ HS3.out
              · have y2 : decide ((num : Int) < least) = false := by rw [decide_eq_false_iff_not]; omega
                have y2n : decide (num < least) = false := by rw [decide_eq_false_iff_not]; omega
                have y3 : decide ((2147483648 : Int) < num) = false := by rw [decide_eq_false_iff_not]; unfold most at hc2; omega
                have y3n : decide (2147483648 < num) = false := by rw [decide_eq_false_iff_not]; unfold most at hc2; omega
                have hstep := Lib.hid (fun rs' u' (hs : Scan (reg.drop (u + n)) (num + 1) rs' u') => by
                  have h1 := HS.out.scan (r :: rs') (n + u') (.step hrd (by omega) (by omega) (by rw [List.drop_drop]; exact hs))
                  have e1 : rs ++ r :: rs' = (rs ++ [r]) ++ rs' := by simp
                  have e2 : u + (n + u') = (u + n) + u' := by omega
                  rw [e1, e2] at h1
                  exact h1)
                have hnum2 : num ≤ most := by omega
                have HNUM := Lib.hid hnum2
                have hrl := HS.out.rl
                clear hrd hc1 hc2 hnum2
                go_wp2_with fail
                refine HRd.mono ?_; rintro e w3 ⟨rfl, hb3⟩
                have hS3 := HS.out.grew hb3
                have k5 : w3.cell? ⟨x + 1, 5, none⟩ = some rv := by rw [Lib.cell_of_heap hS3.cells]; rfl
                have hrow := hS3.row
                have hbase : w.heap.size ≤ w3.heap.size := hS3.below.size
                have hxlt : x + 1 < w3.heap.size := (Array.getElem?_eq_some_iff.1 hS3.cells).1
                have hone : ∀ u ∈ [Value.string (bs r)], u.oneCell' = true := by simp [Value.oneCell']
                obtain ⟨i0, hi, hz0, hz1, hz2⟩ := info_parts infoStr
                have HS3 := Lib.hid hS3
                clear hb3 hS3
                go_wp2_with (at_builtin; refine wpList_append_own_at _ rfl _ _ 34 rfl w.heap.size 9 i0 (.string ⟨#[]⟩) 1 16 Tryz.underlying34 hi hz0 hz1 hz2 rfl (by decide) _ _ _ rfl (hrow.alloc _) ⟨w3.heap.size, 0, none⟩ 1 1 [.string (bs r)] rfl rfl (World.news_of_block (cs := #[.string (bs r)]) (t := 9) (fr := (0, 0)) (heap_alloc_new w3 _)) hone (by unfold maxLen; omega) (by omega) (by simp; omega) ?_)
                intro v' w5 hown5 hgrow5 hnil5 hat5
                have hcell5 : w5.heap[x + 1]? = some (.cells (logCells d j pg pgs rv nx u) 83 (0, 0)) :=
                  (hgrow5.block (x + 1) (by simp; omega) (fun e => Lib.ownBlock_ne hrow HS3.out.cells (by decide) e.symm)).trans ((Lib.alloc_old _ _ _ hxlt).trans HS3.out.cells)
                have hB5 : Below w.heap.size w w5 := (HS3.out.below.alloc hbase _).grown hgrow5 (by simp; omega) (fun k hk => (hrow.lt k hk).1)
                have hch5 : Chg rv.ownBlock.toList w3 w5 := ((Chg.refl _ _).grow (World.grownBy_alloc _ _ none) (fun r e => by cases e)).grow hgrow5 (fun k e => .inr (by rw [e]; simp))
                have hss5 : StrsAt w5 g 0 (reg.map bs) := strsAt_chg HS3.out.ss hch5 (fun e => HS3.out.ne (by simpa using e))
                have hne5 : v'.ownBlock ≠ some g := by
                  rcases hat5 with h | h
                  · rw [h]; exact HS3.out.ne
                  · rw [h]
                    intro e
                    have := HS3.out.ss.1
                    simp at e
                    omega
                have hO5 : w5.ownsRow w.heap.size 9 1 v' (rs.length + 1) (strs (rs ++ [r])) := by
                  have e1 : strs (rs ++ [r]) = strs rs ++ [.string (bs r)] := by simp
                  rw [e1]; exact hown5
                obtain ⟨ao, n', cap', rfl⟩ : ∃ ao n' cap', v' = .slice ao n' cap' := by
                  rcases hown5.2 with ⟨hv, _⟩ | ⟨g, cap, cur, hv, _⟩
                  · exact ⟨_, _, _, hv⟩
                  · exact ⟨_, _, _, hv⟩
                have k5 : w5.cell? ⟨x + 1, 5, none⟩ = some rv := by rw [Lib.cell_of_heap hcell5]; rfl
                have k7 : w5.cell? ⟨x + 1, 7, none⟩ = some (.int .i64 u) := by rw [Lib.cell_of_heap hcell5]; rfl
                have f5 : w5.frozen? ⟨x + 1, 5, none⟩ = false := Lib.frozen_of_heap hcell5 5
                have f7 : w5.frozen? ⟨x + 1, 7, none⟩ = false := Lib.frozen_of_heap hcell5 7
                have HC5 := Lib.hid hcell5
                have HO5 := Lib.hid hO5
                have HB5 := Lib.hid hB5
                have HSS5 := Lib.hid hss5
                have HNE5 := Lib.hid hne5
                clear hown5 hgrow5 hnil5 hat5 hcell5 hO5 hB5 hss5 hne5 hch5 hrow
                go_wp2_with fail
                have hc : Chg [x + 1] w5 ((w5.setCell ⟨x + 1, 5, none⟩ (.slice ao n' cap')).setCell ⟨x + 1, 7, none⟩ (.int .i64 ((u : Int) + n))) :=
                  (setCell_chg w5 ⟨x + 1, 5, none⟩ _ (by simp)).trans (setCell_chg _ ⟨x + 1, 7, none⟩ _ (by simp))
                have hcl : ((w5.setCell ⟨x + 1, 5, none⟩ (.slice ao n' cap')).setCell ⟨x + 1, 7, none⟩ (.int .i64 ((u : Int) + n))).heap[x + 1]? = some (.cells (logCells d j pg pgs (.slice ao n' cap') nx (u + n)) 83 (0, 0)) := by
                  simp [World.setCell, Array.getElem?_modify, HC5.out]
                have hus : usedOf ((w5.setCell ⟨x + 1, 5, none⟩ (.slice ao n' cap')).setCell ⟨x + 1, 7, none⟩ (.int .i64 ((u : Int) + n))) x = u + n := by
                  unfold usedOf
                  rw [Lib.cell_of_heap hcl]
                  simp [intOf]; omega
                refine ⟨⟨u + n, num + 1, rs ++ [r], .slice ao n' cap', by simp, ?_⟩, by rw [hus, hmeas.out]; omega⟩
                have hrne := Lib.ownBlock_ne HO5.out HC5.out (by decide)
                exact { ul := by omega, ll := by have := HNUM.out; omega, cells := hcl, row := by
                          have h1 := row_chg HO5.out hc (fun k hk e => hrne (by simp at e; rw [← e]; exact hk))
                          have e2 : (rs ++ [r]).length = rs.length + 1 := by simp
                          rw [e2]; exact h1,
                        rl := by simp; omega, ss := strsAt_chg HSS5.out hc (by simpa using hgx), ne := HNE5.out,
                        below := HB5.out.trans (hc.below HB5.out.size (fun k hk => by simp at hk; omega)), scan := hstep.out }
        · obtain rfl : u = j := by omega
          have HF := Lib.hid (fun (W : World) (h : Scanning w d u pg pgs x g reg first nx u least rs rv W) => h.fin hxw hL3 hnm (fun r num n e => by
            rw [List.drop_eq_nil_of_le (by rw [HRL.out]; omega)] at e; cases e))
          go_wp2_with fail
          go_ret2
          rw [← HNXE.out]
          exact HF.out _ HS.out
end Go.Proofs.YtfijhffhlklddaaGreatDoor
