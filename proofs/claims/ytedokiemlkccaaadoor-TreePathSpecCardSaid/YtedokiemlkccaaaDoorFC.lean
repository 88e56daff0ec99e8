/- The walk of TreeLeafSpec. -/
import Derived.Test.YtedokiemlkccaaaDoorFB
import Derived.Test.YtedokiemlkccaaaDoorCD
set_option linter.all false
namespace Go.Proofs.YtedokiemlkccaaaDoor
open Go.RowKit
open Go.RowKit Go.Shelf
attribute [local go_sem] Oper.semAt_some
attribute [local go_sem ↓] ld46_in st46_in bs46_in bd46_in ld41_in
attribute [local go_sem] st_new st_any sl_one sl_two sl_three
theorem rleaf_any (l : Ln) (d : List UInt8) (w : World) (hd : d.length = 32) : Calls Tryd.prog 55 #[.agg l.arr, .agg (u8s d).toArray] w fun e w' => e = .returned (.tuple #[.agg (leafR l d).arr, .int .i64 (leafE l)]) ∧ Below w.heap.size w w' := by
  unfold leafR leafE
  cases h : l.ok
  · exact rleaf_no l d w h
  · exact rleaf_yes l d w h hd
/-- what the last statement of TreeLeafSpec reads. -/
abbrev SL (w : World) (g5 g9 g11 : Nat) (d : List UInt8) (X : Array Value) (W : World) : Prop :=
  (ld46 ⟨g9, 0, none⟩).run Tryd.prog W = .ok (.agg X) W ∧ (ld46 ⟨g11, 0, none⟩).run Tryd.prog W = .ok (.agg X) W ∧ (ld41 ⟨g5, 0, none⟩).run Tryd.prog W = .ok (.agg (u8s d).toArray) W ∧ Bk W [(g9, X), (g11, X)] ∧ Blk W g5 41 (u8s d).toArray ∧ Below w.heap.size w W
theorem sl_of {w W : World} {g5 g9 g11 : Nat} {d : List UInt8} {X : Array Value} (hd : d.length = 32) (hX : OkX X) (hk : Bk W [(g9, X), (g11, X)]) (hD : Blk W g5 41 (u8s d).toArray) (b : Below w.heap.size w W) : SL w g5 g9 g11 d X W :=
  ⟨ld_blk (hk (g9, X) (by simp)) hX, ld_blk (hk (g11, X) (by simp)) hX, ld41_blk hD hd, hk, hD, b⟩
theorem sl_next {w W W' : World} {g5 g9 g11 : Nat} {d : List UInt8} {X : Array Value} (hd : d.length = 32) (hX : OkX X) (h : SL w g5 g9 g11 d X W) (k : Below W.heap.size W W') : SL w g5 g9 g11 d X W' :=
  sl_of hd hX (h.2.2.2.1.below k) (h.2.2.2.2.1.below k h.2.2.2.2.1.lt) (bl h.2.2.2.2.2 k)
theorem sl_b {w W : World} {g5 g9 g11 : Nat} {d : List UInt8} {X : Array Value} (h : SL w g5 g9 g11 d X W) : Below w.heap.size w W := h.2.2.2.2.2
set_option maxRecDepth 100000 in
set_option maxHeartbeats 2000000 in
/-- TreeLeafSpec, of whatever comes in. -/
theorem leafspec_walk (l : Ln) (d : List UInt8) (k a : Int) (w : World) (hd : d.length = 32) (hk : -9223372036854775808 ≤ k ∧ k < 9223372036854775808) (ha : -9223372036854775808 ≤ a ∧ a < 9223372036854775808) (hT : Tabs w) :
    Calls Tryd.prog 12 #[.agg l.arr, .agg (u8s d).toArray, .int .i64 k, .int .i64 a] w fun e w' => e = .returned (.bool true) ∧ Below w.heap.size w w' := by
  have C0 := Lib.hid fun (W : World) (hb : Below w.heap.size w W) => sane41_any W (hT.ext hb)
  have c1 := fun (W : World) (hb : Below w.heap.size w W) => leaf_any l d W hd (hT.ext hb)
  have c2 := fun (W : World) => rleaf_any l d W hd
  have oX := okX _ (leafR_len l d)
  have hE := fun W => eqN_self (leafR l d) ▸ eq_node (leafR l d) (leafR l d) (leafR_len l d) (leafR_len l d) W
  have c3 := fun (W : World) (hb : Below w.heap.size w W) => tsalt_any d k a W hd (hT.ext hb)
  have c4 := fun (W : World) => rsalt_any d k a W hd hk ha
  have hsl : (saltV d k a).length = 32 := tagB_length _ _
  have hE2 := fun W => (decide_eq_true (rfl : saltV d k a = saltV d k a)) ▸ eq_digest (saltV d k a) (saltV d k a) hsl hsl W
  obtain ⟨X, hX⟩ : ∃ X, (leafR l d).arr = X := ⟨_, rfl⟩
  obtain ⟨E, hEE⟩ : ∃ E, leafE l = E := ⟨_, rfl⟩
  simp only [hX, hEE] at c1 c2 oX hE
  obtain ⟨s, hs⟩ : ∃ s, saltV d k a = s := ⟨_, rfl⟩
  simp only [hs] at c3 c4 hE2
  have hu41 := Tryd.underlying41
  have hi41 : (Tryd.prog.info? 41).map (·.size) = some (u8s d).length := by
    obtain ⟨i41, h41, z41, s41, _⟩ := info_parts info41
    rw [h41, u8s_length, hd]; simp [s41]
  have hL := (Blk.new w 65 l.arr).alloc (.cells (u8s d).toArray 41)
  have hD : Blk ((w.alloc (.cells l.arr 65)).alloc (.cells (u8s d).toArray 41)) (w.heap.size + 1) 41 (u8s d).toArray := by
    have := Blk.new (w.alloc (.cells l.arr 65)) 41 (u8s d).toArray
    rwa [World.size_alloc] at this
  have b : Below w.heap.size w ((w.alloc (.cells l.arr 65)).alloc (.cells (u8s d).toArray 41)) := ((Below.refl _ w).alloc (Nat.le_refl _) _).alloc (by simp) _
  have C1 := Lib.hid (show ∀ (W : World), Below w.heap.size w W → Calls Tryd.prog 54 #[.agg #[.int .i64 l.co, .int .i64 l.te, .int .i64 l.gr, .int .i64 l.cr, .int .i64 l.ca], .agg (u8s d).toArray] W fun e w' => e = .returned (.tuple #[.agg X, .int .i64 E]) ∧ Below W.heap.size W w' from c1)
  have C2 := Lib.hid (show ∀ (W : World), Calls Tryd.prog 55 #[.agg #[.int .i64 l.co, .int .i64 l.te, .int .i64 l.gr, .int .i64 l.cr, .int .i64 l.ca], .agg (u8s d).toArray] W fun e w' => e = .returned (.tuple #[.agg X, .int .i64 E]) ∧ Below W.heap.size W w' from c2)
  have C3 := Lib.hid c3
  have C4 := Lib.hid c4
  have HD := Lib.hid hd
  clear c1 c2 c3 c4 hX hEE hs hsl hT hd hk ha
  go_enter Tryd.func12, Tryd.ntmps12
  go_wp2_with fail
  generalize (w.alloc (.cells l.arr 65)).alloc (.cells (u8s d).toArray 41) = w1 at hL hD b ⊢
  obtain ⟨g4, hg4⟩ : ∃ g, w.heap.size = g := ⟨_, rfl⟩
  rw [hg4] at hL hD ⊢
  have HG := Lib.hid hg4
  clear hg4
  refine (C0.out _ b).mono ?_
  rintro e w2 ⟨rfl, k2⟩
  replace b := bl b k2
  replace hL := hL.below k2 hL.lt
  replace hD := hD.below k2 hD.lt
  clear k2
  have x0 : w2.cell? ⟨g4, 0, none⟩ = some (.int .i64 l.co) := hL.cell 0
  have x1 : w2.cell? ⟨g4, 1, none⟩ = some (.int .i64 l.te) := hL.cell 1
  have x2 : w2.cell? ⟨g4, 2, none⟩ = some (.int .i64 l.gr) := hL.cell 2
  have x3 : w2.cell? ⟨g4, 3, none⟩ = some (.int .i64 l.cr) := hL.cell 3
  have x4 : w2.cell? ⟨g4, 4, none⟩ = some (.int .i64 l.ca) := hL.cell 4
  have l1 := ld41_blk hD HD.out
  go_wp2_with fail
  refine (C1.out _ b).mono ?_
  rintro e w3 ⟨rfl, k3⟩
  replace b := bl b k3
  replace hL := hL.below k3 hL.lt
  replace hD := hD.below k3 hD.lt
  clear k3 x0 x1 x2 x3 x4 l1
  go_upto_region 4 with fail
  have hk := (Bk.nil w3).new X
  replace b := b.alloc b.size (.cells X 46)
  replace hL := hL.alloc (.cells X 46)
  replace hD := hD.alloc (.cells X 46)
  obtain ⟨g9, hg9⟩ : ∃ g, w3.heap.size = g := ⟨_, rfl⟩
  rw [hg9] at hk ⊢
  generalize w3.alloc (.cells X 46) = w4 at hk b hL hD ⊢
  clear hg9
  have x0 : w4.cell? ⟨g4, 0, none⟩ = some (.int .i64 l.co) := hL.cell 0
  have x1 : w4.cell? ⟨g4, 1, none⟩ = some (.int .i64 l.te) := hL.cell 1
  have x2 : w4.cell? ⟨g4, 2, none⟩ = some (.int .i64 l.gr) := hL.cell 2
  have x3 : w4.cell? ⟨g4, 3, none⟩ = some (.int .i64 l.cr) := hL.cell 3
  have x4 : w4.cell? ⟨g4, 4, none⟩ = some (.int .i64 l.ca) := hL.cell 4
  have l1 := ld41_blk hD HD.out
  go_wp2_with fail
  refine (C2.out _).mono ?_
  rintro e w5 ⟨rfl, k5⟩
  replace b := bl b k5
  replace hk := hk.below k5
  replace hD := hD.below k5 hD.lt
  clear k5 x0 x1 x2 x3 x4 l1 hL
  go_upto_region 5 with fail
  replace hk := hk.new X
  replace b := b.alloc b.size (.cells X 46)
  replace hD := hD.alloc (.cells X 46)
  obtain ⟨g11, hg11⟩ : ∃ g, w5.heap.size = g := ⟨_, rfl⟩
  rw [hg11] at hk ⊢
  generalize w5.alloc (.cells X 46) = w6 at hk b hD ⊢
  clear hg11
  have hk2 : Bk w6.drew [(g9, X), (g11, X)] := fun p hp => hk p (by simp at hp ⊢; rcases hp with rfl | rfl <;> simp)
  have s0 := sl_of (w := w) (W := w6.drew) HD.out oX hk2 hD b.drew
  clear hk hk2 hD b
  refine wp_region_held_drew (S := fun W => (ld46 ⟨g9, 0, none⟩).run Tryd.prog W = .ok (.agg X) W ∧ (ld46 ⟨g11, 0, none⟩).run Tryd.prog W = .ok (.agg X) W ∧ (ld41 ⟨g4 + 1, 0, none⟩).run Tryd.prog W = .ok (.agg (u8s d).toArray) W ∧ Bk W [(g9, X), (g11, X)] ∧ Blk W (g4 + 1) 41 (u8s d).toArray ∧ Below w.heap.size w W) (by kernel_rfl) s0 (fun hHeld => ?_)
  refine wpAnyH_take (i := 0) (oi := { dst := some 27, op := Op.load 46 (Operand.tmp 9), type := 46, pos := "law.go:40", after := #[], guard := none }) (v := ?_) rfl (by kernel_rfl) (by kernel_rfl) (by kernel_rfl) (fun _ _ _ h => h) (Or.inl ⟨by rfl, ?_⟩) (by assumption) ?_
  rotate_left
  · (intro w hSw; (try dsimp only at hSw); go_simp; try with_reducible rfl)
  try simp only [Act.put, List.setIfInBounds_toArray, List.set_cons_zero, List.set_cons_succ]
  refine wpAnyH_take (i := 1) (oi := { dst := some 28, op := Op.load 46 (Operand.tmp 11), type := 46, pos := "law.go:40", after := #[], guard := none }) (v := ?_) rfl (by kernel_rfl) (by kernel_rfl) (by kernel_rfl) (fun _ _ _ h => h) (Or.inl ⟨by rfl, ?_⟩) (by assumption) ?_
  rotate_left
  · (intro w hSw; (try dsimp only at hSw); go_simp; try with_reducible rfl)
  try simp only [Act.put, List.setIfInBounds_toArray, List.set_cons_zero, List.set_cons_succ]
  refine wpAnyH_take (i := 2) (oi := { dst := some 29, op := Op.binOp BinOp.eql 46 (Operand.tmp 27) (Operand.tmp 28) 46, type := 4, pos := "law.go:40", after := #[{ on := 0, ground := Ground.data }, { on := 1, ground := Ground.data }], guard := none }) (v := ?_) rfl (by kernel_rfl) (by kernel_rfl) (by kernel_rfl) (fun _ _ _ h => h) (Or.inl ⟨by rfl, ?_⟩) (by assumption) ?_
  rotate_left
  · (intro w hSw; (try dsimp only at hSw); go_simp; try with_reducible rfl)
  try simp only [Act.put, List.setIfInBounds_toArray, List.set_cons_zero, List.set_cons_succ]
  refine wpAnyH_take (i := 3) (oi := { dst := some 30, op := Op.move (Operand.tmp 29), type := 4, pos := "law.go:40", after := #[{ on := 2, ground := Ground.data }], guard := none }) (v := ?_) rfl (by kernel_rfl) (by kernel_rfl) (by kernel_rfl) (fun _ _ _ h => h) (Or.inl ⟨by rfl, ?_⟩) (by assumption) ?_
  rotate_left
  · (intro w hSw; (try dsimp only at hSw); go_simp; try with_reducible rfl)
  try simp only [Act.put, List.setIfInBounds_toArray, List.set_cons_zero, List.set_cons_succ]
  refine wpAnyH_take (i := 4) (oi := { dst := some 31, op := Op.move (Operand.tmp 10), type := 25, pos := "law.go:40", after := #[{ on := 3, ground := Ground.guard }], guard := some (3, true) }) (v := ?_) rfl (by kernel_rfl) (by kernel_rfl) (by kernel_rfl) (fun _ _ _ h => h) (Or.inl ⟨by rfl, ?_⟩) (by assumption) ?_
  rotate_left
  · (intro w hSw; (try dsimp only at hSw); go_simp; try with_reducible rfl)
  try simp only [Act.put, List.setIfInBounds_toArray, List.set_cons_zero, List.set_cons_succ]
  refine wpAnyH_take (i := 5) (oi := { dst := some 32, op := Op.move (Operand.tmp 12), type := 25, pos := "law.go:40", after := #[{ on := 3, ground := Ground.guard }], guard := some (3, true) }) (v := ?_) rfl (by kernel_rfl) (by kernel_rfl) (by kernel_rfl) (fun _ _ _ h => h) (Or.inl ⟨by rfl, ?_⟩) (by assumption) ?_
  rotate_left
  · (intro w hSw; (try dsimp only at hSw); go_simp; try with_reducible rfl)
  try simp only [Act.put, List.setIfInBounds_toArray, List.set_cons_zero, List.set_cons_succ]
  refine wpAnyH_take (i := 6) (oi := { dst := some 33, op := Op.binOp BinOp.eql 25 (Operand.tmp 31) (Operand.tmp 32) 25, type := 4, pos := "law.go:40", after := #[{ on := 4, ground := Ground.data }, { on := 5, ground := Ground.data }, { on := 3, ground := Ground.guard }], guard := some (3, true) }) (v := ?_) rfl (by kernel_rfl) (by kernel_rfl) (by kernel_rfl) (fun _ _ _ h => h) (Or.inl ⟨by rfl, ?_⟩) (by assumption) ?_
  rotate_left
  · (intro w hSw; (try dsimp only at hSw); go_simp; try with_reducible rfl)
  try simp only [Act.put, List.setIfInBounds_toArray, List.set_cons_zero, List.set_cons_succ]
  refine wpAnyH_take (i := 7) (oi := { dst := some 34, op := Op.pick (Operand.tmp 30) (Operand.tmp 33) (Operand.const (Value.bool false)), type := 4, pos := "law.go:40", after := #[{ on := 3, ground := Ground.data }, { on := 6, ground := Ground.data }], guard := none }) (v := ?_) rfl (by kernel_rfl) (by kernel_rfl) (by kernel_rfl) (fun _ _ _ h => h) (Or.inl ⟨by rfl, ?_⟩) (by assumption) ?_
  rotate_left
  · (intro w hSw; (try dsimp only at hSw); go_simp; try with_reducible rfl)
  try simp only [Act.put, List.setIfInBounds_toArray, List.set_cons_zero, List.set_cons_succ]
  refine wpAnyH_take (i := 8) (oi := { dst := some 35, op := Op.move (Operand.tmp 34), type := 4, pos := "law.go:40", after := #[{ on := 7, ground := Ground.data }, { on := 3, ground := Ground.chain }], guard := none }) (v := ?_) rfl (by kernel_rfl) (by kernel_rfl) (by kernel_rfl) (fun _ _ _ h => h) (Or.inl ⟨by rfl, ?_⟩) (by assumption) ?_
  rotate_left
  · (intro w hSw; (try dsimp only at hSw); go_simp; try with_reducible rfl)
  try simp only [Act.put, List.setIfInBounds_toArray, List.set_cons_zero, List.set_cons_succ]
  refine wpAnyH_take (i := 9) (oi := { dst := some 36, op := Op.load 41 (Operand.tmp 5), type := 41, pos := "law.go:40", after := #[{ on := 8, ground := Ground.guard }], guard := some (8, true) }) (v := ?_) rfl (by kernel_rfl) (by kernel_rfl) (by kernel_rfl) (fun _ _ _ h => h) (Or.inl ⟨by rfl, ?_⟩) (by assumption) ?_
  rotate_left
  · (intro w hSw; (try dsimp only at hSw); go_simp; try with_reducible rfl)
  try simp only [Act.put, List.setIfInBounds_toArray, List.set_cons_zero, List.set_cons_succ]
  refine wpAnyH_take (i := 10) (oi := { dst := some 37, op := Op.move (Operand.tmp 2), type := 3, pos := "law.go:40", after := #[{ on := 8, ground := Ground.guard }], guard := some (8, true) }) (v := ?_) rfl (by kernel_rfl) (by kernel_rfl) (by kernel_rfl) (fun _ _ _ h => h) (Or.inl ⟨by rfl, ?_⟩) (by assumption) ?_
  rotate_left
  · (intro w hSw; (try dsimp only at hSw); go_simp; try with_reducible rfl)
  try simp only [Act.put, List.setIfInBounds_toArray, List.set_cons_zero, List.set_cons_succ]
  refine wpAnyH_take (i := 11) (oi := { dst := some 38, op := Op.move (Operand.tmp 3), type := 3, pos := "law.go:40", after := #[{ on := 8, ground := Ground.guard }], guard := some (8, true) }) (v := ?_) rfl (by kernel_rfl) (by kernel_rfl) (by kernel_rfl) (fun _ _ _ h => h) (Or.inl ⟨by rfl, ?_⟩) (by assumption) ?_
  rotate_left
  · (intro w hSw; (try dsimp only at hSw); go_simp; try with_reducible rfl)
  try simp only [Act.put, List.setIfInBounds_toArray, List.set_cons_zero, List.set_cons_succ]
  refine wpAnyH_take (i := 13) (oi := { dst := some 40, op := Op.load 41 (Operand.tmp 5), type := 41, pos := "law.go:40", after := #[{ on := 8, ground := Ground.guard }], guard := some (8, true) }) (v := ?_) rfl (by kernel_rfl) (by kernel_rfl) (by kernel_rfl) (fun _ _ _ h => h) (Or.inl ⟨by rfl, ?_⟩) (by assumption) ?_
  rotate_left
  · (intro w hSw; (try dsimp only at hSw); go_simp; try with_reducible rfl)
  try simp only [Act.put, List.setIfInBounds_toArray, List.set_cons_zero, List.set_cons_succ]
  refine wpAnyH_take (i := 14) (oi := { dst := some 41, op := Op.move (Operand.tmp 2), type := 3, pos := "law.go:40", after := #[{ on := 8, ground := Ground.guard }], guard := some (8, true) }) (v := ?_) rfl (by kernel_rfl) (by kernel_rfl) (by kernel_rfl) (fun _ _ _ h => h) (Or.inl ⟨by rfl, ?_⟩) (by assumption) ?_
  rotate_left
  · (intro w hSw; (try dsimp only at hSw); go_simp; try with_reducible rfl)
  try simp only [Act.put, List.setIfInBounds_toArray, List.set_cons_zero, List.set_cons_succ]
  refine wpAnyH_take (i := 15) (oi := { dst := some 42, op := Op.move (Operand.tmp 3), type := 3, pos := "law.go:40", after := #[{ on := 8, ground := Ground.guard }], guard := some (8, true) }) (v := ?_) rfl (by kernel_rfl) (by kernel_rfl) (by kernel_rfl) (fun _ _ _ h => h) (Or.inl ⟨by rfl, ?_⟩) (by assumption) ?_
  rotate_left
  · (intro w hSw; (try dsimp only at hSw); go_simp; try with_reducible rfl)
  try simp only [Act.put, List.setIfInBounds_toArray, List.set_cons_zero, List.set_cons_succ]
  refine wpAnyH_ready (rs := [12]) (by kernel_rfl) (by simp) ?_
  refine AllReadyH.cons (o := { dst := some 39, op := Op.call { callee := Callee.value (Operand.func 56), args := #[Operand.tmp 36, Operand.tmp 37, Operand.tmp 38], argTypes := #[41, 3, 3] }, type := 41, pos := "law.go:40", after := #[{ on := 9, ground := Ground.data }, { on := 10, ground := Ground.data }, { on := 11, ground := Ground.data }, { on := 8, ground := Ground.chain }, { on := 8, ground := Ground.guard }], guard := some (8, true) }) rfl (fun K hK => ?_) AllReadyH.nil
  go_simp
  refine (C3.out _ (sl_b s0)).mono ?_; rintro e w7 ⟨rfl, k7⟩; have s7 := sl_next HD.out oX s0 k7
  go_wp2_with fail
  refine hK.out _ _ s7 (fun hHeld => ?_)
  clear hK K
  try simp only [Act.put, List.setIfInBounds_toArray, List.set_cons_zero, List.set_cons_succ]
  refine wpAnyH_ready (rs := [16]) (by kernel_rfl) (by simp) ?_
  refine AllReadyH.cons (o := { dst := some 43, op := Op.call { callee := Callee.value (Operand.func 57), args := #[Operand.tmp 40, Operand.tmp 41, Operand.tmp 42], argTypes := #[41, 3, 3] }, type := 41, pos := "law.go:40", after := #[{ on := 13, ground := Ground.data }, { on := 14, ground := Ground.data }, { on := 15, ground := Ground.data }, { on := 12, ground := Ground.chain }, { on := 8, ground := Ground.guard }], guard := some (8, true) }) rfl (fun K hK => ?_) AllReadyH.nil
  go_simp
  refine (C4.out _).mono ?_; rintro e w8 ⟨rfl, k8⟩; have s8 := sl_next HD.out oX s7 k8
  go_wp2_with fail
  refine hK.out _ _ s8 (fun hHeld => ?_)
  clear hK K
  try simp only [Act.put, List.setIfInBounds_toArray, List.set_cons_zero, List.set_cons_succ]
  refine wpAnyH_take (i := 17) (oi := { dst := some 44, op := Op.binOp BinOp.eql 41 (Operand.tmp 39) (Operand.tmp 43) 41, type := 4, pos := "law.go:40", after := #[{ on := 12, ground := Ground.data }, { on := 16, ground := Ground.data }, { on := 8, ground := Ground.guard }], guard := some (8, true) }) (v := ?_) rfl (by kernel_rfl) (by kernel_rfl) (by kernel_rfl) (fun _ _ _ h => h) (Or.inl ⟨by rfl, ?_⟩) (by assumption) ?_
  rotate_left
  · (intro w hSw; (try dsimp only at hSw); go_simp; try with_reducible rfl)
  try simp only [Act.put, List.setIfInBounds_toArray, List.set_cons_zero, List.set_cons_succ]
  refine wpAnyH_take (i := 18) (oi := { dst := some 45, op := Op.pick (Operand.tmp 35) (Operand.tmp 44) (Operand.const (Value.bool false)), type := 4, pos := "law.go:40", after := #[{ on := 8, ground := Ground.data }, { on := 17, ground := Ground.data }], guard := none }) (v := ?_) rfl (by kernel_rfl) (by kernel_rfl) (by kernel_rfl) (fun _ _ _ h => h) (Or.inl ⟨by rfl, ?_⟩) (by assumption) ?_
  rotate_left
  · (intro w hSw; (try dsimp only at hSw); go_simp; try with_reducible rfl)
  try simp only [Act.put, List.setIfInBounds_toArray, List.set_cons_zero, List.set_cons_succ]
  refine wpAnyH_take (i := 19) (oi := { dst := some 8, op := Op.assign (Operand.tmp 45), type := 4, pos := "law.go:40", after := #[{ on := 18, ground := Ground.data }, { on := 16, ground := Ground.chain }, { on := 0, ground := Ground.phase }, { on := 1, ground := Ground.phase }, { on := 2, ground := Ground.phase }, { on := 3, ground := Ground.phase }, { on := 4, ground := Ground.phase }, { on := 5, ground := Ground.phase }, { on := 6, ground := Ground.phase }, { on := 7, ground := Ground.phase }, { on := 8, ground := Ground.phase }, { on := 9, ground := Ground.phase }, { on := 10, ground := Ground.phase }, { on := 11, ground := Ground.phase }, { on := 12, ground := Ground.phase }, { on := 13, ground := Ground.phase }, { on := 14, ground := Ground.phase }, { on := 15, ground := Ground.phase }, { on := 16, ground := Ground.phase }, { on := 17, ground := Ground.phase }, { on := 18, ground := Ground.phase }], guard := none }) (v := ?_) rfl (by kernel_rfl) (by kernel_rfl) (by kernel_rfl) (fun _ _ _ h => h) (Or.inl ⟨by rfl, ?_⟩) (by assumption) ?_
  rotate_left
  · (intro w hSw; (try dsimp only at hSw); go_simp; try with_reducible rfl)
  try simp only [Act.put, List.setIfInBounds_toArray, List.set_cons_zero, List.set_cons_succ]
  refine wpAnyH_done (by kernel_rfl) ?_ _
  have b9 := sl_b s8
  go_wp2_with fail
  go_ret
  exact ⟨rfl, b9⟩
open Go.RowKit Go.Shelf
theorem int_bd {a : Int} (h : (Lit.int .i64 a).wf = true) : -9223372036854775808 ≤ a ∧ a < 9223372036854775808 := by
  have h2 : IntKind.i64.min ≤ a ∧ a ≤ IntKind.i64.max := by
    unfold Lit.wf at h
    rw [Bool.and_eq_true, decide_eq_true_eq, decide_eq_true_eq] at h
    exact h
  have e1 : IntKind.i64.min = -9223372036854775808 := rfl
  have e2 : IntKind.i64.max = 9223372036854775807 := rfl
  omega
end Go.Proofs.YtedokiemlkccaaaDoor
