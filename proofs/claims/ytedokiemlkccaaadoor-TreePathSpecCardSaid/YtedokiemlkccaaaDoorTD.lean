/- The way to a leaf, and slices.Reverse of nodes and of truth values. -/
import Derived.Test.YtedokiemlkccaaaDoorTC
import Derived.RangeFuncNested
import Derived.RangeFuncBound
import Derived.RangeFuncCalls
import Derived.RangeFuncLeaves
import Derived.Shelf.Abstract
import Derived.Shelf.RegionOpen
import Derived.WalkKit
import Derived.OwnWalkIn
import Derived.TacticsInMore
import Derived.LoopNIn
import Derived.LoopIn
import Derived.Deep.MidRow
set_option linter.all false
namespace Go.Proofs.YtedokiemlkccaaaDoor
open Go.RowKit
open Go.RowKit Go.Shelf
attribute [local go_sem] Oper.semAt_some
/-- the parts beside the way to a leaf, from the root downwards. -/
def wayL (at_ lo hi : Nat) : List (Bool × Nat × Nat) :=
  if h : 2 ≤ hi - lo then
    if at_ < lo + halfN (hi - lo) then (true, lo + halfN (hi - lo), hi) :: wayL at_ lo (lo + halfN (hi - lo)) else (false, lo, lo + halfN (hi - lo)) :: wayL at_ (lo + halfN (hi - lo)) hi
  else []
termination_by hi - lo
decreasing_by
  · have := half_spec h; omega
  · have := half_spec h; omega
theorem wayL_end {at_ lo hi : Nat} (h : ¬ 2 ≤ hi - lo) : wayL at_ lo hi = [] := by rw [wayL, dif_neg h]
theorem wayL_left {at_ lo hi : Nat} (h : 2 ≤ hi - lo) (h2 : at_ < lo + halfN (hi - lo)) : wayL at_ lo hi = (true, lo + halfN (hi - lo), hi) :: wayL at_ lo (lo + halfN (hi - lo)) := by rw [wayL, dif_pos h, if_pos h2]
theorem wayL_right {at_ lo hi : Nat} (h : 2 ≤ hi - lo) (h2 : ¬ at_ < lo + halfN (hi - lo)) : wayL at_ lo hi = (false, lo, lo + halfN (hi - lo)) :: wayL at_ (lo + halfN (hi - lo)) hi := by rw [wayL, dif_pos h, if_neg h2]
/-- a part of m nodes. -/
abbrev WX (m : Nat) := { x : Bool × Nat × Nat // x.2.1 < x.2.2 ∧ x.2.2 ≤ m }
/-- what a round is handed. -/
def encW (x : Bool × Nat × Nat) : Array Value := #[.bool x.1, .agg #[.int .i64 x.2.1, .int .i64 x.2.2]]
def KeepsAt (B : Nat) (W W' : World) : Prop := W'.cell? ⟨B, 0, none⟩ = W.cell? ⟨B, 0, none⟩
set_option maxHeartbeats 1000000 in
theorem way1_in (n : Nat) (hn : 1 ≤ n) (l Bm Ba at_ many : Nat) (J Jx : List (WX many) → World → Prop) (hm : many ≤ 4096) (hat : at_ ≤ 4096)
    (hY : ∀ pre x W, J pre W → pre.length < (wayL at_ 0 many).length → YieldAt Fence.wide (n - 1) Tryd.prog l (encW x.1) W fun e W' =>
      (e = .returned (.bool true) ∧ J (pre ++ [x]) W' ∧ KeepsAt Ba W W') ∨ (e = .returned (.bool false) ∧ Jx (pre ++ [x]) W'))
    (W : World) (hJg : ∀ s X X', J s X → X.grownBy X' none → J s X') (hBm : W.cell? ⟨Bm, 0, none⟩ = some (.int .i64 many)) (hBa : W.cell? ⟨Ba, 0, none⟩ = some (.int .i64 at_)) (h0 : J [] W) :
    CallsIn Fence.wide n Tryd.prog 116 #[.func (.yield l) #[] #[], .pointer (some ⟨Bm, 0, none⟩), .pointer (some ⟨Ba, 0, none⟩)] W fun e W' => (∃ v, e = .returned v) ∧
      ((∃ ys : List (WX many), ys.map (·.1) = wayL at_ 0 many ∧ J ys W') ∨ (∃ pre, True ∧ Jx pre W')) := by
  have HHalf := Lib.hid fun (k : Nat) (W : World) (h : k ≤ 4096) => half_any k W (by omega)
  refine callsIn_of_wp Tryd.func116 rfl trivial ?_ rfl
  simp only [Tryd.ntmps116, List.size_toArray, List.length_cons, List.length_nil, Nat.reduceAdd, Nat.reduceSub, Array.replicate_succ, Array.replicate_zero, List.push_toArray, List.append_toArray, List.nil_append, List.cons_append]
  gi_wp2
  gi_region
  all_goals gi_wp2
  have hJd : J [] W.drew := hJg _ _ _ h0 ⟨rfl, rfl, rfl, Nat.le_refl _, fun _ _ _ => rfl⟩
  gi_loopw [4, 5] (fun x y wr => ∃ (pre : List (WX many)) (lo hi : Nat), lo ≤ hi ∧ hi ≤ many ∧ x = .int .i64 lo ∧ y = .int .i64 hi ∧ pre.map (·.1) ++ wayL at_ lo hi = wayL at_ 0 many ∧ J pre wr ∧ wr.cell? ⟨Ba, 0, none⟩ = some (.int .i64 at_)) (fun x y _ => (intOf y - intOf x).toNat)
  case atStart => exact ⟨[], 0, many, Nat.zero_le _, Nat.le_refl _, rfl, rfl, rfl, hJd, hBa⟩
  case round =>
    obtain ⟨pre, lo, hi, hle, hh, rfl, rfl, hw, hJs, hc⟩ := hrel
    have e1 : IntKind.i64.wrap ((hi : Int) - lo) = (hi : Int) - lo := by rw [IntWalk.i64_in _ (by omega)]
    by_cases h2 : 2 ≤ hi - lo
    · have d1 : decide ((1 : Int) < (hi : Int) - lo) = true := decide_eq_true (by omega)
      have hs := half_spec h2
      have C1 := HHalf.out (hi - lo) wr (by omega)
      obtain ⟨hf, hhf⟩ : ∃ hf, halfN (hi - lo) = hf := ⟨_, rfl⟩
      rw [hhf] at C1 hs
      rw [show ((hi - lo : Nat) : Int) = (hi : Int) - lo by omega] at C1
      obtain ⟨k, hk⟩ : ∃ k, lo + hf = k := ⟨_, rfl⟩
      have e2 : IntKind.i64.wrap ((lo : Int) + hf) = (k : Int) := by rw [IntWalk.i64_in _ (by omega)]; omega
      by_cases h3 : at_ < k
      · have d2 : decide ((at_ : Int) < k) = true := decide_eq_true (by omega)
        have C1 := Lib.hid C1
        have hway := wayL_left h2 (by rw [hhf, hk]; exact h3)
        rw [hhf, hk] at hway
        have hkl : lo < k := by omega
        have hkh : k < hi := by omega
        have hlen : pre.length < (wayL at_ 0 many).length := by rw [← hw, hway, List.length_append, List.length_cons, List.length_map]; omega
        obtain ⟨fn, tmps, assign, body, hy, hR⟩ := hY pre ⟨(true, k, hi), show k < hi ∧ hi ≤ many by omega⟩ (wr.alloc (.cells #[.int .i64 k, .int .i64 hi] 105)) (hJg _ _ _ hJs (World.grownBy_alloc _ _ _)) hlen
        have hy : (Instr.yield l #[.bool true, .agg #[.int .i64 k, .int .i64 hi]]).run Tryd.prog (wr.alloc (.cells #[.int .i64 k, .int .i64 hi] 105)) = .ok (.round l fn tmps assign body) (wr.alloc (.cells #[.int .i64 k, .int .i64 hi] 105)) := hy
        have hca := cell_alloc_l (.cells #[.int .i64 k, .int .i64 hi] 105) hc
        have HW := Lib.hid hway
        clear hway
        gi_wp2_with fail
        refine ⟨trivial, ?_⟩
        refine (callsIn_wide.2 C1.out).mono ?_
        rintro e w' ⟨rfl, rfl⟩
        gi_wp2_with fail
        refine hR.mono ?_
        rintro e W3 (⟨rfl, hJ3, hk3⟩ | ⟨rfl, hJx3⟩)
        · have hc3 : W3.cell? ⟨Ba, 0, none⟩ = some (.int .i64 at_) := hk3.trans hca
          gi_wp2
          go_roundw
          case rel => exact ⟨pre ++ [⟨(true, k, hi), _⟩], lo, k, by omega, by omega, rfl, rfl, by rw [← hw, HW.out, List.map_append, List.append_assoc]; rfl, hJ3, hc3⟩
          case measure => simp [intOf]; omega
        · gi_wp2
          refine bodyPost_ret (results_none rfl _ _ _) rfl ?_
          exact ⟨⟨_, rfl⟩, .inr ⟨_, trivial, hJx3⟩⟩
      · have d2 : decide ((at_ : Int) < k) = false := decide_eq_false (by omega)
        have C1 := Lib.hid C1
        have hway := wayL_right h2 (by rw [hhf, hk]; exact h3)
        rw [hhf, hk] at hway
        have hkl : lo < k := by omega
        have hkh : k < hi := by omega
        have hlen : pre.length < (wayL at_ 0 many).length := by rw [← hw, hway, List.length_append, List.length_cons, List.length_map]; omega
        obtain ⟨fn, tmps, assign, body, hy, hR⟩ := hY pre ⟨(false, lo, k), show lo < k ∧ k ≤ many by omega⟩ (wr.alloc (.cells #[.int .i64 lo, .int .i64 k] 105)) (hJg _ _ _ hJs (World.grownBy_alloc _ _ _)) hlen
        have hy : (Instr.yield l #[.bool false, .agg #[.int .i64 lo, .int .i64 k]]).run Tryd.prog (wr.alloc (.cells #[.int .i64 lo, .int .i64 k] 105)) = .ok (.round l fn tmps assign body) (wr.alloc (.cells #[.int .i64 lo, .int .i64 k] 105)) := hy
        have hca := cell_alloc_l (.cells #[.int .i64 lo, .int .i64 k] 105) hc
        have HW := Lib.hid hway
        clear hway
        gi_wp2_with fail
        refine ⟨trivial, ?_⟩
        refine (callsIn_wide.2 C1.out).mono ?_
        rintro e w' ⟨rfl, rfl⟩
        gi_wp2_with fail
        refine hR.mono ?_
        rintro e W3 (⟨rfl, hJ3, hk3⟩ | ⟨rfl, hJx3⟩)
        · have hc3 : W3.cell? ⟨Ba, 0, none⟩ = some (.int .i64 at_) := hk3.trans hca
          gi_wp2
          go_roundw
          case rel => exact ⟨pre ++ [⟨(false, lo, k), _⟩], k, hi, by omega, by omega, rfl, rfl, by rw [← hw, HW.out, List.map_append, List.append_assoc]; rfl, hJ3, hc3⟩
          case measure => simp [intOf]; omega
        · gi_wp2
          refine bodyPost_ret (results_none rfl _ _ _) rfl ?_
          exact ⟨⟨_, rfl⟩, .inr ⟨_, trivial, hJx3⟩⟩
    · have d1 : decide ((1 : Int) < (hi : Int) - lo) = false := decide_eq_false (by omega)
      have HW := Lib.hid (wayL_end (at_ := at_) h2)
      gi_wp2
      go_end0
      exact ⟨⟨_, rfl⟩, .inl ⟨pre, by rw [← hw, HW.out, List.append_nil], hJs⟩⟩
theorem way_any (at_ many : Nat) (w : World) : Calls Tryd.prog 90 #[.int .i64 at_, .int .i64 many] w fun e w' => e = .returned (.func (.func 116) #[] #[.pointer (some ⟨w.heap.size + 1, 0, none⟩), .pointer (some ⟨w.heap.size, 0, none⟩)]) ∧ (w.alloc (.cells #[.int .i64 at_] 3)).alloc (.cells #[.int .i64 many] 3) = w' := by
  have hmf : ∀ (fn : Fn) (first cap : Array Value) (w : World), (Instr.makeFunc fn first cap).run Tryd.prog w = .ok (.func fn first cap) w := fun _ _ _ _ => rfl
  go_enter Tryd.func90, Tryd.ntmps90
  go_wp2
  go_ret
  exact ⟨rfl, rfl⟩
theorem way_stops (n : Nat) (hn : 1 ≤ n) (Bm Ba at_ many : Nat) (hm : many ≤ 4096) (hat : at_ ≤ 4096) (w : World) (hBm : w.cell? ⟨Bm, 0, none⟩ = some (.int .i64 many)) (hBa : w.cell? ⟨Ba, 0, none⟩ = some (.int .i64 at_)) (hlm : Bm < w.heap.size) (hla : Ba < w.heap.size) :
    SeqStopsK Fence.wide n Tryd.prog 116 #[.pointer (some ⟨Bm, 0, none⟩), .pointer (some ⟨Ba, 0, none⟩)] (fun x : WX many => encW x.1) (KeepsAt Ba) (fun ys => ys.map (·.1) = wayL at_ 0 many) (fun _ => True) (wayL at_ 0 many).length w :=
  fun l J Jx W hW hJ _ hY h0 => way1_in n hn l Bm Ba at_ many J Jx hm hat hY W (fun s X X' hs hg => hJ s X X' none hs hg (fun r e => by cases e)) ((hW.cell (p := ⟨Bm, 0, none⟩) hlm).trans hBm) ((hW.cell (p := ⟨Ba, 0, none⟩) hla).trans hBa) h0
/-- entry m of nodes, of which the first i and the last i have changed places. -/
def revN (ns : List Nd) (i m : Nat) : Nd := if m < i ∨ ns.length - i ≤ m then ns.getD (ns.length - 1 - m) nd0 else ns.getD m nd0
theorem revN_len {ns : List Nd} (hd : ∀ n ∈ ns, n.d.length = 32) (i m : Nat) : (revN ns i m).d.length = 32 := by
  have h0 : nd0.d.length = 32 := rfl
  have hg : ∀ k, (ns.getD k nd0).d.length = 32 := fun k => by
    rw [List.getD_eq_getElem?_getD]
    cases h : ns[k]? with
    | none => exact h0
    | some x => exact hd x (List.mem_of_getElem? h)
  unfold revN
  split
  · exact hg _
  · exact hg _
theorem below_cells' (g : Nat) : ∀ (vs : List Value) (o : Nat) (w : World), w.grownBy (w.setCells g o vs) (some g)
  | [], _, w => ⟨rfl, rfl, rfl, Nat.le_refl _, fun _ _ _ => rfl⟩
  | v :: vs, o, w => by
    have h := below_cells' g vs (o + 1) (w.setCell ⟨g, o, none⟩ v)
    have h2 : w.grownBy (w.setCell ⟨g, o, none⟩ v) (some g) := ⟨rfl, rfl, rfl, by simp, fun k _ hk => Below.heap_setCell _ _ _ k (fun e => hk (by rw [e]))⟩
    exact World.grownBy.trans h2 h
theorem grown_drew {w w' : World} {r : Option Nat} (h : w.grownBy w' r) : w.grownBy w'.drew r := ⟨h.os, h.tape, h.output, h.size, h.block⟩
/-- nodes, of which some have changed places, in memory. -/
def RevAt (W : World) (g o n : Nat) (ns : List Nd) (i : Nat) : Prop := ∀ m, m < n → W.rangeAt g (o + m * 34) (revN ns i m).cells
theorem rev_step {w wr : World} {g o n i j : Nat} {ns : List Nd} (hd : ∀ x ∈ ns, x.d.length = 32) (hl : ns.length = n) (hj : n = i + j + 1) (hij : i < j) (hR : RevAt wr g o n ns i) (hT : ∀ m, m < n → wr.there g (o + m * 34) 34) (hG : w.grownBy wr (some g)) :
    RevAt ((wr.setCells g (o + i * 34) (revN ns i j).cells).setCells g (o + j * 34) (revN ns i i).cells) g o n ns (i + 1) ∧
    (∀ m, m < n → ((wr.setCells g (o + i * 34) (revN ns i j).cells).setCells g (o + j * 34) (revN ns i i).cells).there g (o + m * 34) 34) ∧
    w.grownBy ((wr.setCells g (o + i * 34) (revN ns i j).cells).setCells g (o + j * 34) (revN ns i i).cells) (some g) := by
  have li := Nd.len _ (revN_len hd i i)
  have lj := Nd.len _ (revN_len hd i j)
  refine ⟨fun m hm => ?_, fun m hm => World.there_setCells (World.there_setCells (hT m hm) _ _ _) _ _ _, hG.trans ((below_cells' g _ _ _).trans (below_cells' g _ _ _))⟩
  have lm := Nd.len _ (revN_len hd (i + 1) m)
  by_cases h1 : m = j
  · subst h1
    have e : revN ns (i + 1) m = revN ns i i := by unfold revN; rw [if_pos (by omega), if_neg (by omega)]; congr 1; omega
    rw [e]
    exact World.rangeAt_setCells_same _ _ _ _ (by rw [li]; exact World.there_setCells (hT m hm) _ _ _)
  · by_cases h2 : m = i
    · subst h2
      have e : revN ns (m + 1) m = revN ns m j := by unfold revN; rw [if_pos (by omega), if_neg (by omega)]; congr 1; omega
      rw [e]
      exact World.rangeAt_setCells_apart (World.rangeAt_setCells_same _ _ _ _ (by rw [lj]; exact hT m hm)) _ _ _ (.inr (.inl (by rw [lj]; omega)))
    · have e : revN ns (i + 1) m = revN ns i m := by
        unfold revN
        by_cases h3 : m < i ∨ ns.length - i ≤ m
        · rw [if_pos h3, if_pos (by omega)]
        · rw [if_neg h3, if_neg (by omega)]
      rw [e] at lm ⊢
      refine World.rangeAt_setCells_apart (World.rangeAt_setCells_apart (hR m hm) _ _ _ (.inr ?_)) _ _ _ (.inr ?_)
      · rw [lm, lj]; omega
      · rw [lm, li]; omega
set_option maxRecDepth 100000 in
set_option maxHeartbeats 2000000 in
/-- slices.Reverse of nodes. -/
theorem rev_nodes (g o n c : Nat) (ns : List Nd) (w : World) (hl : ns.length = n) (hn : n ≤ 100000) (hnc : n ≤ c) (hc : c ≤ 9223372036854775807) (hN : NAt w g o ns) (hd : ∀ x ∈ ns, x.d.length = 32) (ht : ∀ m, m < n → w.there g (o + m * 34) 34) :
    Calls Tryd.prog 91 #[.slice (some ⟨g, o, none⟩) n c] w fun e w' => (∃ v, e = .returned v) ∧ NAt w' g o ns.reverse ∧ w.grownBy w' (some g) := by
  go_enter Tryd.func91, Tryd.ntmps91
  go_wp2_with fail
  go_loopw [2, 3] (fun x y wr => ∃ i : Nat, 2 * i ≤ n ∧ x = .int .i64 i ∧ y = .int .i64 ((n : Int) - 1 - i) ∧ RevAt wr g o n ns i ∧ w.grownBy wr (some g) ∧ ∀ m, m < n → wr.there g (o + m * 34) 34) (fun x y _ => (intOf y - intOf x + 1).toNat)
  case atStart =>
    refine ⟨0, by omega, rfl, by simp, fun m hm => ?_, ⟨rfl, rfl, rfl, Nat.le_refl _, fun _ _ _ => rfl⟩, ht⟩
    have := hN m (by omega)
    unfold revN
    rw [if_neg (by omega), List.getD_eq_getElem?_getD, List.getElem?_eq_getElem (by omega)]
    exact this
  case round =>
    obtain ⟨i, h2, rfl, rfl, hR, hG, hth⟩ := hrel
    by_cases hij : (i : Int) < (n : Int) - 1 - i
    · obtain ⟨j, hj⟩ : ∃ j : Nat, n = i + j + 1 := ⟨n - 1 - i, by omega⟩
      have ej : (n : Int) - 1 - i = (j : Int) := by omega
      rw [ej]
      have d0 : decide (i < j) = true := decide_eq_true (by omega)
      have b0 : (0 : Int) ≤ (i : Int) := by omega
      have b1 : (i : Int) < (n : Int) := by omega
      have b2 : (0 : Int) ≤ (j : Int) := by omega
      have b3 : (j : Int) < (n : Int) := by omega
      have ri := hR i (by omega)
      have rj := hR j (by omega)
      have li := Nd.len _ (revN_len hd i i)
      have lj := Nd.len _ (revN_len hd i j)
      have oi : ∀ v ∈ (revN ns i i).cells, v.oneCell' = true := fun v hv => (Array.all_eq_true_iff_forall_mem.1 (nd_all (revN ns i i))) v (by unfold Nd.arr; simpa using hv)
      have oj : ∀ v ∈ (revN ns i j).cells, v.oneCell' = true := fun v hv => (Array.all_eq_true_iff_forall_mem.1 (nd_all (revN ns i j))) v (by unfold Nd.arr; simpa using hv)
      have R9 := Lib.hid (rev_step hd hl hj (by omega) (wr := wr.drew) hR (fun m hm => (World.there_drew _ _ _ _).2 (hth m hm)) (grown_drew hG))
      obtain ⟨ci, hci⟩ : ∃ c, (revN ns i i).cells = c := ⟨_, rfl⟩
      obtain ⟨cj, hcj⟩ : ∃ c, (revN ns i j).cells = c := ⟨_, rfl⟩
      rw [hci] at ri li oi
      rw [hcj] at rj lj oj
      simp only [hci, hcj] at R9
      have ii : (Tryd.prog.info? 46).map (·.size) = some ci.length := by rw [li]; exact size46
      have ij : (Tryd.prog.info? 46).map (·.size) = some cj.length := by rw [lj]; exact size46
      have hu := Tryd.underlying46
      have ri' : wr.drew.rangeAt g (o + i * 34) ci := ri
      have rj' : wr.drew.rangeAt g (o + j * 34) cj := rj
      have ti : wr.drew.there g (o + i * 34) cj.toArray.size := by rw [List.size_toArray, lj]; exact hth i (by omega)
      have tj : (wr.drew.setCells g (o + i * 34) cj).there g (o + j * 34) ci.toArray.size := by rw [List.size_toArray, li]; exact World.there_setCells (show wr.drew.there g (o + j * 34) 34 from (World.there_drew _ _ _ _).2 (hth j (by omega))) _ _ _
      have HCI := Lib.hid hci; have HCJ := Lib.hid hcj; have HJ := Lib.hid hj; have HR := Lib.hid hR; have HG := Lib.hid hG; have HTH := Lib.hid hth; have HD := Lib.hid hd; have H2 := Lib.hid h2
      clear hci hcj hj hR hG hth hd hij ej ri rj ht hN h2
      go_upto_region 3 with fail
      refine wp_region_noPanic ?_
      refine wp_region_any (by kernel_rfl) ?_
      refine wpAny_take (i := 0) (oi := { dst := some 14, op := Op.move (Operand.tmp 0), type := 44, pos := "slices.go:485", after := #[], guard := none }) (v := ?_) rfl (by kernel_rfl) (by kernel_rfl) (by kernel_rfl) (fun _ _ _ h => h) (Or.inl ⟨by rfl, ?_⟩) ?_
      rotate_left
      · (intro w; go_simp; try with_reducible rfl)
      try simp only [Act.put, List.setIfInBounds_toArray, List.set_cons_zero, List.set_cons_succ]
      refine wpAny_take (i := 1) (oi := { dst := some 15, op := Op.move (Operand.tmp 2), type := 3, pos := "slices.go:485", after := #[], guard := none }) (v := ?_) rfl (by kernel_rfl) (by kernel_rfl) (by kernel_rfl) (fun _ _ _ h => h) (Or.inl ⟨by rfl, ?_⟩) ?_
      rotate_left
      · (intro w; go_simp; try with_reducible rfl)
      try simp only [Act.put, List.setIfInBounds_toArray, List.set_cons_zero, List.set_cons_succ]
      refine wpAny_take (i := 2) (oi := { dst := some 16, op := Op.move (Operand.tmp 0), type := 44, pos := "slices.go:485", after := #[{ on := 13, ground := Ground.gcOnly Departure.lateStores }], guard := none }) (v := ?_) rfl (by kernel_rfl) (by kernel_rfl) (by kernel_rfl) (fun _ _ _ h => h) (Or.inl ⟨by rfl, ?_⟩) ?_
      rotate_left
      · (intro w; go_simp; try with_reducible rfl)
      try simp only [Act.put, List.setIfInBounds_toArray, List.set_cons_zero, List.set_cons_succ]
      refine wpAny_take (i := 3) (oi := { dst := some 17, op := Op.move (Operand.tmp 3), type := 3, pos := "slices.go:485", after := #[{ on := 13, ground := Ground.gcOnly Departure.lateStores }], guard := none }) (v := ?_) rfl (by kernel_rfl) (by kernel_rfl) (by kernel_rfl) (fun _ _ _ h => h) (Or.inl ⟨by rfl, ?_⟩) ?_
      rotate_left
      · (intro w; go_simp; try with_reducible rfl)
      try simp only [Act.put, List.setIfInBounds_toArray, List.set_cons_zero, List.set_cons_succ]
      refine wpAny_take (i := 4) (oi := { dst := some 18, op := Op.move (Operand.tmp 0), type := 44, pos := "slices.go:485", after := #[], guard := none }) (v := ?_) rfl (by kernel_rfl) (by kernel_rfl) (by kernel_rfl) (fun _ _ _ h => h) (Or.inl ⟨by rfl, ?_⟩) ?_
      rotate_left
      · (intro w; go_simp; try with_reducible rfl)
      try simp only [Act.put, List.setIfInBounds_toArray, List.set_cons_zero, List.set_cons_succ]
      refine wpAny_take (i := 5) (oi := { dst := some 19, op := Op.move (Operand.tmp 3), type := 3, pos := "slices.go:485", after := #[], guard := none }) (v := ?_) rfl (by kernel_rfl) (by kernel_rfl) (by kernel_rfl) (fun _ _ _ h => h) (Or.inl ⟨by rfl, ?_⟩) ?_
      rotate_left
      · (intro w; go_simp; try with_reducible rfl)
      try simp only [Act.put, List.setIfInBounds_toArray, List.set_cons_zero, List.set_cons_succ]
      refine wpAny_take (i := 6) (oi := { dst := some 20, op := Op.indexAddr 44 (Operand.tmp 18) (Operand.tmp 19), type := 0, pos := "slices.go:485", after := #[{ on := 4, ground := Ground.data }, { on := 5, ground := Ground.data }], guard := none }) (v := ?_) rfl (by kernel_rfl) (by kernel_rfl) (by kernel_rfl) (fun _ _ _ h => h) (Or.inl ⟨by rfl, ?_⟩) ?_
      rotate_left
      · (intro w; go_simp; try with_reducible rfl)
      try simp only [Act.put, List.setIfInBounds_toArray, List.set_cons_zero, List.set_cons_succ]
      refine wpAny_take (i := 8) (oi := { dst := some 22, op := Op.move (Operand.tmp 0), type := 44, pos := "slices.go:485", after := #[], guard := none }) (v := ?_) rfl (by kernel_rfl) (by kernel_rfl) (by kernel_rfl) (fun _ _ _ h => h) (Or.inl ⟨by rfl, ?_⟩) ?_
      rotate_left
      · (intro w; go_simp; try with_reducible rfl)
      try simp only [Act.put, List.setIfInBounds_toArray, List.set_cons_zero, List.set_cons_succ]
      refine wpAny_take (i := 9) (oi := { dst := some 23, op := Op.move (Operand.tmp 2), type := 3, pos := "slices.go:485", after := #[], guard := none }) (v := ?_) rfl (by kernel_rfl) (by kernel_rfl) (by kernel_rfl) (fun _ _ _ h => h) (Or.inl ⟨by rfl, ?_⟩) ?_
      rotate_left
      · (intro w; go_simp; try with_reducible rfl)
      try simp only [Act.put, List.setIfInBounds_toArray, List.set_cons_zero, List.set_cons_succ]
      refine wpAny_take (i := 10) (oi := { dst := some 24, op := Op.indexAddr 44 (Operand.tmp 22) (Operand.tmp 23), type := 0, pos := "slices.go:485", after := #[{ on := 8, ground := Ground.data }, { on := 9, ground := Ground.data }], guard := none }) (v := ?_) rfl (by kernel_rfl) (by kernel_rfl) (by kernel_rfl) (fun _ _ _ h => h) (Or.inl ⟨by rfl, ?_⟩) ?_
      rotate_left
      · (intro w; go_simp; try with_reducible rfl)
      try simp only [Act.put, List.setIfInBounds_toArray, List.set_cons_zero, List.set_cons_succ]
      refine wpAny_ready (rs := [7, 11]) (by kernel_rfl) (by simp) ?_
      refine AllReady.cons (o := { dst := some 21, op := Op.load 46 (Operand.tmp 20), type := 46, pos := "slices.go:485", after := #[{ on := 6, ground := Ground.data }], guard := none }) rfl (fun K hK => ?_) ?_
      · rw [if_pos (by rfl)]
        refine wp_load_mid 46 (.tmp 20) rfl g (o + j * 34) (by rfl) cj _ rj' hu rfl ij ?_
        refine hK _ _ ?_
        clear hK K
        try simp only [Act.put, List.setIfInBounds_toArray, List.set_cons_zero, List.set_cons_succ, List.toList_toArray]
        refine wpAny_ready (rs := [11]) (by kernel_rfl) (by simp) ?_
        refine AllReady.cons (o := { dst := some 25, op := Op.load 46 (Operand.tmp 24), type := 46, pos := "slices.go:485", after := #[{ on := 10, ground := Ground.data }], guard := none }) rfl (fun K hK => ?_) ?_
        · rw [if_pos (by rfl)]
          refine wp_load_mid 46 (.tmp 24) rfl g (o + i * 34) (by rfl) ci _ ri' hu rfl ii ?_
          refine hK _ _ ?_
          clear hK K
          try simp only [Act.put, List.setIfInBounds_toArray, List.set_cons_zero, List.set_cons_succ, List.toList_toArray]
          refine wpAny_take (i := 12) (oi := { dst := some 26, op := Op.indexAddr 44 (Operand.tmp 14) (Operand.tmp 15), type := 0, pos := "slices.go:485", after := #[{ on := 0, ground := Ground.data }, { on := 1, ground := Ground.data }, { on := 0, ground := Ground.phase }, { on := 1, ground := Ground.phase }, { on := 2, ground := Ground.textOnly Departure.lateStores }, { on := 3, ground := Ground.textOnly Departure.lateStores }, { on := 4, ground := Ground.phase }, { on := 5, ground := Ground.phase }, { on := 6, ground := Ground.phase }, { on := 7, ground := Ground.phase }, { on := 8, ground := Ground.textOnly Departure.lateStores }, { on := 9, ground := Ground.textOnly Departure.lateStores }, { on := 10, ground := Ground.textOnly Departure.lateStoresUnsure }, { on := 11, ground := Ground.phase }], guard := none }) (v := ?_) rfl (by kernel_rfl) (by kernel_rfl) (by kernel_rfl) (fun _ _ _ h => h) (Or.inl ⟨by rfl, ?_⟩) ?_
          rotate_left
          · (intro w; go_simp; try with_reducible rfl)
          try simp only [Act.put, List.setIfInBounds_toArray, List.set_cons_zero, List.set_cons_succ]
          refine wpAny_ready (rs := [13]) (by kernel_rfl) (by simp) ?_
          refine AllReady.cons (o := { dst := none, op := Op.store 46 (Operand.tmp 26) (Operand.tmp 21), type := 0, pos := "slices.go:485", after := #[{ on := 12, ground := Ground.data }, { on := 7, ground := Ground.data }, { on := 0, ground := Ground.phase }, { on := 1, ground := Ground.phase }, { on := 2, ground := Ground.textOnly Departure.lateStores }, { on := 3, ground := Ground.textOnly Departure.lateStores }, { on := 4, ground := Ground.phase }, { on := 5, ground := Ground.phase }, { on := 6, ground := Ground.phase }, { on := 7, ground := Ground.phase }, { on := 8, ground := Ground.textOnly Departure.lateStores }, { on := 9, ground := Ground.textOnly Departure.lateStores }, { on := 10, ground := Ground.textOnly Departure.lateStoresUnsure }, { on := 11, ground := Ground.phase }], guard := none }) rfl (fun K hK => ?_) ?_
          · rw [if_pos (by rfl)]
            refine wp_store_mid 46 (.tmp 26) (.tmp 21) rfl g (o + i * 34) cj.toArray (by rfl) (by rfl) ti (by rw [List.size_toArray]; exact ij) (all_oneCell_toArray oj) ?_
            refine hK _ _ ?_
            clear hK K
            try simp only [Act.put, List.setIfInBounds_toArray, List.set_cons_zero, List.set_cons_succ, List.toList_toArray]
            refine wpAny_take (i := 14) (oi := { dst := some 27, op := Op.indexAddr 44 (Operand.tmp 16) (Operand.tmp 17), type := 0, pos := "slices.go:485", after := #[{ on := 2, ground := Ground.data }, { on := 3, ground := Ground.data }, { on := 0, ground := Ground.phase }, { on := 1, ground := Ground.phase }, { on := 2, ground := Ground.phase }, { on := 3, ground := Ground.phase }, { on := 4, ground := Ground.phase }, { on := 5, ground := Ground.phase }, { on := 6, ground := Ground.phase }, { on := 7, ground := Ground.phase }, { on := 8, ground := Ground.phase }, { on := 9, ground := Ground.phase }, { on := 10, ground := Ground.phase }, { on := 11, ground := Ground.phase }, { on := 12, ground := Ground.phase }, { on := 13, ground := Ground.phase }], guard := none }) (v := ?_) rfl (by kernel_rfl) (by kernel_rfl) (by kernel_rfl) (fun _ _ _ h => h) (Or.inl ⟨by rfl, ?_⟩) ?_
            rotate_left
            · (intro w; go_simp; try with_reducible rfl)
            try simp only [Act.put, List.setIfInBounds_toArray, List.set_cons_zero, List.set_cons_succ]
            refine wpAny_ready (rs := [15]) (by kernel_rfl) (by simp) ?_
            refine AllReady.cons (o := { dst := none, op := Op.store 46 (Operand.tmp 27) (Operand.tmp 25), type := 0, pos := "slices.go:485", after := #[{ on := 14, ground := Ground.data }, { on := 11, ground := Ground.data }, { on := 13, ground := Ground.chain }, { on := 0, ground := Ground.phase }, { on := 1, ground := Ground.phase }, { on := 2, ground := Ground.phase }, { on := 3, ground := Ground.phase }, { on := 4, ground := Ground.phase }, { on := 5, ground := Ground.phase }, { on := 6, ground := Ground.phase }, { on := 7, ground := Ground.phase }, { on := 8, ground := Ground.phase }, { on := 9, ground := Ground.phase }, { on := 10, ground := Ground.phase }, { on := 11, ground := Ground.phase }, { on := 12, ground := Ground.phase }, { on := 13, ground := Ground.phase }], guard := none }) rfl (fun K hK => ?_) ?_
            · rw [if_pos (by rfl)]
              refine wp_store_mid 46 (.tmp 27) (.tmp 25) rfl g (o + j * 34) ci.toArray (by rfl) (by rfl) tj (by rw [List.size_toArray]; exact ii) (all_oneCell_toArray oi) ?_
              refine hK _ _ ?_
              clear hK K
              try simp only [Act.put, List.setIfInBounds_toArray, List.set_cons_zero, List.set_cons_succ, List.toList_toArray]
              refine wpAny_done (by kernel_rfl) ?_ _
              refine NoPanic.normal ?_
              generalize hW9 : World.setCells _ g (o + j * 34) ci = W9
              have r9 : RevAt W9 g o n ns (i + 1) ∧ (∀ m, m < n → W9.there g (o + m * 34) 34) ∧ w.grownBy W9 (some g) := by rw [← hW9]; exact R9.out
              clear hW9 ri' rj' ti tj R9
              go_wp2_with fail
              go_roundw
              case rel => exact ⟨i + 1, by have := HJ.out; have := of_decide_eq_true d0; omega, by go_num, by have := HJ.out; go_num, r9.1, r9.2.2, r9.2.1⟩
              case measure => (have := of_decide_eq_true d0; have := HJ.out; simp [intOf]; omega)
            · exact AllReady.nil
          · exact AllReady.nil
        · exact AllReady.nil
      · refine AllReady.cons (o := { dst := some 25, op := Op.load 46 (Operand.tmp 24), type := 46, pos := "slices.go:485", after := #[{ on := 10, ground := Ground.data }], guard := none }) rfl (fun K hK => ?_) ?_
        · rw [if_pos (by rfl)]
          refine wp_load_mid 46 (.tmp 24) rfl g (o + i * 34) (by rfl) ci _ ri' hu rfl ii ?_
          refine hK _ _ ?_
          clear hK K
          try simp only [Act.put, List.setIfInBounds_toArray, List.set_cons_zero, List.set_cons_succ, List.toList_toArray]
          refine wpAny_ready (rs := [7]) (by kernel_rfl) (by simp) ?_
          refine AllReady.cons (o := { dst := some 21, op := Op.load 46 (Operand.tmp 20), type := 46, pos := "slices.go:485", after := #[{ on := 6, ground := Ground.data }], guard := none }) rfl (fun K hK => ?_) ?_
          · rw [if_pos (by rfl)]
            refine wp_load_mid 46 (.tmp 20) rfl g (o + j * 34) (by rfl) cj _ rj' hu rfl ij ?_
            refine hK _ _ ?_
            clear hK K
            try simp only [Act.put, List.setIfInBounds_toArray, List.set_cons_zero, List.set_cons_succ, List.toList_toArray]
            refine wpAny_take (i := 12) (oi := { dst := some 26, op := Op.indexAddr 44 (Operand.tmp 14) (Operand.tmp 15), type := 0, pos := "slices.go:485", after := #[{ on := 0, ground := Ground.data }, { on := 1, ground := Ground.data }, { on := 0, ground := Ground.phase }, { on := 1, ground := Ground.phase }, { on := 2, ground := Ground.textOnly Departure.lateStores }, { on := 3, ground := Ground.textOnly Departure.lateStores }, { on := 4, ground := Ground.phase }, { on := 5, ground := Ground.phase }, { on := 6, ground := Ground.phase }, { on := 7, ground := Ground.phase }, { on := 8, ground := Ground.textOnly Departure.lateStores }, { on := 9, ground := Ground.textOnly Departure.lateStores }, { on := 10, ground := Ground.textOnly Departure.lateStoresUnsure }, { on := 11, ground := Ground.phase }], guard := none }) (v := ?_) rfl (by kernel_rfl) (by kernel_rfl) (by kernel_rfl) (fun _ _ _ h => h) (Or.inl ⟨by rfl, ?_⟩) ?_
            rotate_left
            · (intro w; go_simp; try with_reducible rfl)
            try simp only [Act.put, List.setIfInBounds_toArray, List.set_cons_zero, List.set_cons_succ]
            refine wpAny_ready (rs := [13]) (by kernel_rfl) (by simp) ?_
            refine AllReady.cons (o := { dst := none, op := Op.store 46 (Operand.tmp 26) (Operand.tmp 21), type := 0, pos := "slices.go:485", after := #[{ on := 12, ground := Ground.data }, { on := 7, ground := Ground.data }, { on := 0, ground := Ground.phase }, { on := 1, ground := Ground.phase }, { on := 2, ground := Ground.textOnly Departure.lateStores }, { on := 3, ground := Ground.textOnly Departure.lateStores }, { on := 4, ground := Ground.phase }, { on := 5, ground := Ground.phase }, { on := 6, ground := Ground.phase }, { on := 7, ground := Ground.phase }, { on := 8, ground := Ground.textOnly Departure.lateStores }, { on := 9, ground := Ground.textOnly Departure.lateStores }, { on := 10, ground := Ground.textOnly Departure.lateStoresUnsure }, { on := 11, ground := Ground.phase }], guard := none }) rfl (fun K hK => ?_) ?_
            · rw [if_pos (by rfl)]
              refine wp_store_mid 46 (.tmp 26) (.tmp 21) rfl g (o + i * 34) cj.toArray (by rfl) (by rfl) ti (by rw [List.size_toArray]; exact ij) (all_oneCell_toArray oj) ?_
              refine hK _ _ ?_
              clear hK K
              try simp only [Act.put, List.setIfInBounds_toArray, List.set_cons_zero, List.set_cons_succ, List.toList_toArray]
              refine wpAny_take (i := 14) (oi := { dst := some 27, op := Op.indexAddr 44 (Operand.tmp 16) (Operand.tmp 17), type := 0, pos := "slices.go:485", after := #[{ on := 2, ground := Ground.data }, { on := 3, ground := Ground.data }, { on := 0, ground := Ground.phase }, { on := 1, ground := Ground.phase }, { on := 2, ground := Ground.phase }, { on := 3, ground := Ground.phase }, { on := 4, ground := Ground.phase }, { on := 5, ground := Ground.phase }, { on := 6, ground := Ground.phase }, { on := 7, ground := Ground.phase }, { on := 8, ground := Ground.phase }, { on := 9, ground := Ground.phase }, { on := 10, ground := Ground.phase }, { on := 11, ground := Ground.phase }, { on := 12, ground := Ground.phase }, { on := 13, ground := Ground.phase }], guard := none }) (v := ?_) rfl (by kernel_rfl) (by kernel_rfl) (by kernel_rfl) (fun _ _ _ h => h) (Or.inl ⟨by rfl, ?_⟩) ?_
              rotate_left
              · (intro w; go_simp; try with_reducible rfl)
              try simp only [Act.put, List.setIfInBounds_toArray, List.set_cons_zero, List.set_cons_succ]
              refine wpAny_ready (rs := [15]) (by kernel_rfl) (by simp) ?_
              refine AllReady.cons (o := { dst := none, op := Op.store 46 (Operand.tmp 27) (Operand.tmp 25), type := 0, pos := "slices.go:485", after := #[{ on := 14, ground := Ground.data }, { on := 11, ground := Ground.data }, { on := 13, ground := Ground.chain }, { on := 0, ground := Ground.phase }, { on := 1, ground := Ground.phase }, { on := 2, ground := Ground.phase }, { on := 3, ground := Ground.phase }, { on := 4, ground := Ground.phase }, { on := 5, ground := Ground.phase }, { on := 6, ground := Ground.phase }, { on := 7, ground := Ground.phase }, { on := 8, ground := Ground.phase }, { on := 9, ground := Ground.phase }, { on := 10, ground := Ground.phase }, { on := 11, ground := Ground.phase }, { on := 12, ground := Ground.phase }, { on := 13, ground := Ground.phase }], guard := none }) rfl (fun K hK => ?_) ?_
              · rw [if_pos (by rfl)]
                refine wp_store_mid 46 (.tmp 27) (.tmp 25) rfl g (o + j * 34) ci.toArray (by rfl) (by rfl) tj (by rw [List.size_toArray]; exact ii) (all_oneCell_toArray oi) ?_
                refine hK _ _ ?_
                clear hK K
                try simp only [Act.put, List.setIfInBounds_toArray, List.set_cons_zero, List.set_cons_succ, List.toList_toArray]
                refine wpAny_done (by kernel_rfl) ?_ _
                refine NoPanic.normal ?_
                generalize hW9 : World.setCells _ g (o + j * 34) ci = W9
                have r9 : RevAt W9 g o n ns (i + 1) ∧ (∀ m, m < n → W9.there g (o + m * 34) 34) ∧ w.grownBy W9 (some g) := by rw [← hW9]; exact R9.out
                clear hW9 ri' rj' ti tj R9
                go_wp2_with fail
                go_roundw
                case rel => exact ⟨i + 1, by have := HJ.out; have := of_decide_eq_true d0; omega, by go_num, by have := HJ.out; go_num, r9.1, r9.2.2, r9.2.1⟩
                case measure => (have := of_decide_eq_true d0; have := HJ.out; simp [intOf]; omega)
              · exact AllReady.nil
            · exact AllReady.nil
          · exact AllReady.nil
        · exact AllReady.nil
    · have d0 : decide ((i : Int) < (n : Int) - 1 - i) = false := decide_eq_false hij
      have HR := Lib.hid hR
      have HG := Lib.hid hG
      clear hR hG hth ht hN
      go_wp2_with fail
      go_end0
      refine ⟨⟨_, rfl⟩, fun m hm => ?_, HG.out⟩
      have hm2 : m < n := by rw [List.length_reverse] at hm; omega
      have := HR.out m hm2
      have e : revN ns i m = ns.reverse[m] := by
        rw [List.getElem_reverse]
        unfold revN
        split
        · rw [List.getD_eq_getElem?_getD, List.getElem?_eq_getElem (by omega)]; rfl
        · rw [List.getD_eq_getElem?_getD, List.getElem?_eq_getElem (by omega)]
          show ns[m] = _
          congr 1; omega
      rwa [← e]
/-- entry m of truth values, of which the first i and the last i have changed places. -/
def revB (l : List Bool) (i m : Nat) : Bool := if m < i ∨ l.length - i ≤ m then l.getD (l.length - 1 - m) false else l.getD m false
def RevB (W : World) (g o n : Nat) (l : List Bool) (i : Nat) : Prop := ∀ m, m < n → W.cell? ⟨g, o + m, none⟩ = some (.bool (revB l i m)) ∧ W.frozen? ⟨g, o + m, none⟩ = false
/-- truth values side by side. -/
def BAt (W : World) (g o : Nat) (l : List Bool) : Prop := ∀ m (h : m < l.length), W.cell? ⟨g, o + m, none⟩ = some (.bool l[m])
theorem grown_cell (w : World) (a : Addr) (v : Value) : w.grownBy (w.setCell a v) (some a.block) := ⟨rfl, rfl, rfl, by simp, fun k _ hk => Below.heap_setCell _ _ _ k (fun e => hk (by rw [e]))⟩
theorem revB_step {w wr : World} {g o n i j : Nat} {l : List Bool} (hl : l.length = n) (hj : n = i + j + 1) (hij : i < j) (hR : RevB wr g o n l i) (hG : w.grownBy wr (some g)) :
    RevB ((wr.setCell ⟨g, o + i, none⟩ (.bool (revB l i j))).setCell ⟨g, o + j, none⟩ (.bool (revB l i i))) g o n l (i + 1) ∧
    w.grownBy ((wr.setCell ⟨g, o + i, none⟩ (.bool (revB l i j))).setCell ⟨g, o + j, none⟩ (.bool (revB l i i))) (some g) := by
  refine ⟨fun m hm => ⟨?_, by rw [World.frozen?_setCell, World.frozen?_setCell]; exact (hR m hm).2⟩, hG.trans ((grown_cell wr ⟨g, o + i, none⟩ _).trans (grown_cell _ ⟨g, o + j, none⟩ _))⟩
  have ne : ∀ a b : Nat, a ≠ b → (⟨g, o + a, none⟩ : Addr) ≠ ⟨g, o + b, none⟩ := fun a b h e => by injection e with _ e; omega
  by_cases h1 : m = j
  · subst h1
    have e : revB l (i + 1) m = revB l i i := by unfold revB; rw [if_pos (by omega), if_neg (by omega)]; congr 1; omega
    rw [e]
    exact World.cell?_setCell_same _ _ _ (u := .bool (revB l i m)) ((World.cell?_setCell_other _ _ _ _ (ne _ _ (by omega))).trans (hR m hm).1)
  · refine (World.cell?_setCell_other _ _ _ _ (ne _ _ (by omega))).trans ?_
    by_cases h2 : m = i
    · subst h2
      have e : revB l (m + 1) m = revB l m j := by unfold revB; rw [if_pos (by omega), if_neg (by omega)]; congr 1; omega
      rw [e]
      exact World.cell?_setCell_same _ _ _ (u := .bool (revB l m m)) (hR m hm).1
    · have e : revB l (i + 1) m = revB l i m := by
        unfold revB
        by_cases h3 : m < i ∨ l.length - i ≤ m
        · rw [if_pos h3, if_pos (by omega)]
        · rw [if_neg h3, if_neg (by omega)]
      rw [e]
      exact (World.cell?_setCell_other _ _ _ _ (ne _ _ (by omega))).trans (hR m hm).1
set_option maxRecDepth 100000 in
set_option maxHeartbeats 2000000 in
/-- slices.Reverse of truth values. -/
theorem rev_bools (g o n c : Nat) (l : List Bool) (w : World) (hl : l.length = n) (hn : n ≤ 100000) (hB : RevB w g o n l 0) :
    Calls Tryd.prog 93 #[.slice (some ⟨g, o, none⟩) n c] w fun e w' => (∃ v, e = .returned v) ∧ BAt w' g o l.reverse ∧ w.grownBy w' (some g) := by
  go_enter Tryd.func93, Tryd.ntmps93
  go_wp2_with fail
  go_loopw [2, 3] (fun x y wr => ∃ i : Nat, 2 * i ≤ n ∧ x = .int .i64 i ∧ y = .int .i64 ((n : Int) - 1 - i) ∧ RevB wr g o n l i ∧ w.grownBy wr (some g)) (fun x y _ => (intOf y - intOf x + 1).toNat)
  case atStart => exact ⟨0, by omega, rfl, by simp, hB, ⟨rfl, rfl, rfl, Nat.le_refl _, fun _ _ _ => rfl⟩⟩
  case round =>
    obtain ⟨i, h2, rfl, rfl, hR, hG⟩ := hrel
    by_cases hij : (i : Int) < (n : Int) - 1 - i
    · obtain ⟨j, hj⟩ : ∃ j : Nat, n = i + j + 1 := ⟨n - 1 - i, by omega⟩
      have ej : (n : Int) - 1 - i = (j : Int) := by omega
      rw [ej]
      have d0 : decide (i < j) = true := decide_eq_true (by omega)
      have b0 : (0 : Int) ≤ (i : Int) := by omega
      have b1 : (i : Int) < (n : Int) := by omega
      have b2 : (0 : Int) ≤ (j : Int) := by omega
      have b3 : (j : Int) < (n : Int) := by omega
      have R9 := Lib.hid (revB_step hl hj (by omega) (wr := wr.drew) (fun m hm => hR m hm) (grown_drew hG))
      have ri : wr.cell? ⟨g, o + i, none⟩ = _ := (hR i (by omega)).1
      have rj : wr.cell? ⟨g, o + j, none⟩ = _ := (hR j (by omega)).1
      have fi : wr.frozen? ⟨g, o + i, none⟩ = false := (hR i (by omega)).2
      have fj : (wr.setCell ⟨g, o + i, none⟩ (.bool (revB l i j))).frozen? ⟨g, o + j, none⟩ = false := by rw [World.frozen?_setCell]; exact (hR j (by omega)).2
      have sj : (wr.setCell ⟨g, o + i, none⟩ (.bool (revB l i j))).cell? ⟨g, o + j, none⟩ = some (.bool (revB l i j)) := (World.cell?_setCell_other _ _ _ _ (fun e => by injection e with _ e; omega)).trans rj
      obtain ⟨ci, hci⟩ : ∃ c, revB l i i = c := ⟨_, rfl⟩
      obtain ⟨cj, hcj⟩ : ∃ c, revB l i j = c := ⟨_, rfl⟩
      rw [hci] at ri
      rw [hcj] at rj fj sj
      simp only [hci, hcj] at R9
      have HJ := Lib.hid hj
      clear hci hcj hj hR hG hij ej hB h2
      go_upto_region 3 with fail
      go_region
      all_goals (generalize hW9 : World.setCell _ ⟨g, o + j, none⟩ (.bool ci) = W9; have r9 : RevB W9.drew g o n l (i + 1) ∧ w.grownBy W9.drew (some g) := by rw [← hW9]; exact R9.out)
      all_goals (
        clear hW9 ri rj fi fj sj R9
        go_wp2_with fail
        go_roundw
        case rel => exact ⟨i + 1, by have := HJ.out; have := of_decide_eq_true d0; omega, by go_num, by have := HJ.out; go_num, r9.1, r9.2⟩
        case measure => (have := of_decide_eq_true d0; have := HJ.out; simp [intOf]; omega))
    · have d0 : decide ((i : Int) < (n : Int) - 1 - i) = false := decide_eq_false hij
      have HR := Lib.hid hR
      have HG := Lib.hid hG
      clear hR hG hB
      go_wp2_with fail
      go_end0
      refine ⟨⟨_, rfl⟩, fun m hm => ?_, HG.out⟩
      rw [List.length_reverse] at hm
      have := (HR.out m (by omega)).1
      have e : revB l i m = l.reverse[m]'(by rw [List.length_reverse]; exact hm) := by
        rw [List.getElem_reverse]
        unfold revB
        split
        · rw [List.getD_eq_getElem?_getD, List.getElem?_eq_getElem (by omega)]; rfl
        · rw [List.getD_eq_getElem?_getD, List.getElem?_eq_getElem (by omega)]
          show l[m] = _
          congr 1; omega
      rwa [← e]
end Go.Proofs.YtedokiemlkccaaaDoor
