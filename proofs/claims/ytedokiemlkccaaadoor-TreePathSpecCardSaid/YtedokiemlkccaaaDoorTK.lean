/- The leaves of lines. -/
import Derived.Test.YtedokiemlkccaaaDoorTJ
import Derived.Deep.RegionHeld3
set_option linter.all false
namespace Go.Proofs.YtedokiemlkccaaaDoor
open Go.RowKit
open Go.RowKit Go.Shelf
theorem Ln.size (l : Ln) : l.arr.size = 5 := rfl
/-- lines that lie at a place. -/
def LAt (w : World) (g o : Nat) (ls : List Ln) : Prop := ∀ i (h : i < ls.length), ∀ j v, (ls[i]).arr[j]? = some v → w.cell? ⟨g, o + i * 5 + j, none⟩ = some v
/-- a slice of lines. -/
structure LS (w : World) (A : Option Addr) (n c : Nat) (ls : List Ln) : Prop where
  len : ls.length = n
  le : n ≤ c
  cap : c ≤ 9223372036854775807
  at_ : 0 < n → ∃ g o, A = some ⟨g, o, none⟩ ∧ LAt w g o ls ∧ g < w.heap.size
theorem LS.below {w w' : World} {A : Option Addr} {n c : Nat} {ls : List Ln} (h : LS w A n c ls) (hb : Below w.heap.size w w') : LS w' A n c ls :=
  ⟨h.len, h.le, h.cap, fun hn => by
    obtain ⟨g, o, e, hN, hg⟩ := h.at_ hn
    exact ⟨g, o, e, fun i hi j v hv => (hb.cell (p := ⟨g, o + i * 5 + j, none⟩) hg).trans (hN i hi j v hv), Nat.lt_of_lt_of_le hg hb.size⟩⟩
/-- the leaves of lines, with salts of their places. -/
def leavesL (d : List UInt8) : Nat → List Ln → List Nd
  | _, [] => []
  | i, l :: ls => leafV l (saltV d 1 i) :: leavesL d (i + 1) ls
theorem leavesL_len (d : List UInt8) : ∀ (i : Nat) (ls : List Ln), (leavesL d i ls).length = ls.length
  | _, [] => rfl
  | i, l :: ls => by rw [leavesL, List.length_cons, leavesL_len d (i + 1) ls, List.length_cons]
theorem leavesL_get (d : List UInt8) : ∀ (i : Nat) (ls : List Ln) (j : Nat) (h : j < ls.length), (leavesL d i ls)[j]? = some (leafV ls[j] (saltV d 1 ((i + j : Nat) : Int)))
  | i, l :: ls, 0, _ => rfl
  | i, l :: ls, j + 1, h => by
    rw [leavesL, List.getElem?_cons_succ, leavesL_get d (i + 1) ls j (by simpa using h), show i + 1 + j = i + (j + 1) by omega]; rfl
theorem leavesL_dig (d : List UInt8) (i : Nat) (ls : List Ln) : ∀ x ∈ leavesL d i ls, x.d.length = 32 := fun x hx => by
  obtain ⟨j, hj⟩ := List.getElem?_of_mem hx
  have hl : j < ls.length := by have := (List.getElem?_eq_some_iff.1 hj).1; rwa [leavesL_len] at this
  rw [leavesL_get d i ls j hl] at hj
  cases hj
  exact leafV_len _ _
theorem leavesL_take (d : List UInt8) (ls : List Ln) (i : Nat) (h : i < ls.length) : (leavesL d 0 ls).take (i + 1) = (leavesL d 0 ls).take i ++ [leafV ls[i] (saltV d 1 i)] := by
  have hl : i < (leavesL d 0 ls).length := by rw [leavesL_len]; exact h
  rw [List.take_succ_eq_append_getElem hl]
  have := leavesL_get d 0 ls i h
  rw [List.getElem?_eq_getElem hl, Nat.zero_add] at this
  rw [Option.some.inj this]
theorem Ln.ok_parts {l : Ln} (h : l.ok = true) : 0 ≤ l.co ∧ l.co < 4096 ∧ 0 ≤ l.te ∧ l.te < 1024 ∧ 0 ≤ l.gr ∧ l.gr ≤ 12 ∧ 0 ≤ l.cr ∧ l.cr ≤ 60 ∧ 0 ≤ l.ca ∧ l.ca < 7 := of_decide_eq_true h
theorem mul_bd {a b : Int} (ha : 0 ≤ a) (ha2 : a ≤ 12) (hb : 0 ≤ b) : 0 ≤ a * b ∧ a * b ≤ 12 * b :=
  ⟨Int.mul_nonneg ha hb, Int.mul_le_mul_of_nonneg_right ha2 hb⟩
theorem leaf_ok {l : Ln} (h : l.ok = true) (d : List UInt8) : (leafV l d).ok = true := by
  have p := Ln.ok_parts h
  have q := mul_bd p.2.2.2.2.1 p.2.2.2.2.2.1 p.2.2.2.2.2.2.1
  exact decide_eq_true (by show 0 ≤ l.cr ∧ l.cr ≤ 1073741824 ∧ 0 ≤ l.gr * l.cr ∧ l.gr * l.cr ≤ 12 * l.cr; omega)
/-- the sums of lines. -/
def lineC : List Ln → Int
  | [] => 0
  | l :: ls => l.cr + lineC ls
def lineP : List Ln → Int
  | [] => 0
  | l :: ls => l.gr * l.cr + lineP ls
theorem leaves_facts (d : List UInt8) : ∀ (i : Nat) (ls : List Ln), ls.all Ln.ok = true → (leavesL d i ls).all Nd.ok = true ∧ sumC (leavesL d i ls) = lineC ls ∧ sumP (leavesL d i ls) = lineP ls ∧ 0 ≤ lineC ls ∧ lineC ls ≤ 60 * ls.length ∧ 0 ≤ lineP ls ∧ lineP ls ≤ 720 * ls.length
  | _, [], _ => ⟨rfl, rfl, rfl, Int.le_refl _, by simp [lineC], Int.le_refl _, by simp [lineP]⟩
  | i, l :: ls, h => by
    rw [List.all_cons, Bool.and_eq_true] at h
    obtain ⟨a, b, c, e, f, g, k⟩ := leaves_facts d (i + 1) ls h.2
    have p := Ln.ok_parts h.1
    have q := mul_bd p.2.2.2.2.1 p.2.2.2.2.2.1 p.2.2.2.2.2.2.1
    refine ⟨by rw [leavesL, List.all_cons, leaf_ok h.1, a]; rfl, ?_, ?_, ?_, ?_, ?_, ?_⟩
    · rw [leavesL, sumC, b]; rfl
    · rw [leavesL, sumP, c]; rfl
    · rw [lineC]; omega
    · rw [lineC, List.length_cons]; omega
    · rw [lineP]; omega
    · rw [lineP, List.length_cons]; omega
theorem leaves_root (d : List UInt8) (ls : List Ln) (h : ls.all Ln.ok = true) (h9 : ls.length ≤ 4096) : rootE (leavesL d 0 ls) = true := by
  obtain ⟨a, b, _, _, f, _, _⟩ := leaves_facts d 0 ls h
  exact rootE_of (by rw [leavesL_len]; exact h9) (validB_of a (by rw [b]; omega))
open Go.RowKit Go.Shelf
attribute [local go_sem] Oper.semAt_some
attribute [local go_sem ↓] ld46_in st46_in bs46_in
/-- a node lies at b. -/
def At46 (W : World) (b : Nat) : Prop := ∃ old, Blk W b 46 old ∧ old.size = 34
theorem st_any (W : World) (b : Nat) (X : Array Value) (h : At46 W b) (hX : OkX X) : (st46 ⟨b, 0, none⟩ (.agg X)).run Tryd.prog W = .ok () (W.setRow b X) := by
  obtain ⟨old, hb, ho⟩ := h
  exact run_storeVar_row (P := Tryd.prog) W b 46 46 old X hb (by rw [hX.1]; exact size46) (by rw [ho, hX.1]) hX.2
theorem at46_new {W : World} {X : Array Value} (hX : X.size = 34) : At46 (W.alloc (.cells X 46)) W.heap.size := ⟨X, Blk.new _ _ _, hX⟩
theorem at46_of {W W' : World} {X : Array Value} (hX : X.size = 34) (k : Below (W.alloc (.cells X 46)).heap.size (W.alloc (.cells X 46)) W') : At46 W' W.heap.size := ⟨X, (Blk.new _ _ _).below k (by rw [World.size_alloc]; omega), hX⟩
theorem at46_keep {W W' : World} {b : Nat} (h : At46 W b) (k : Below W.heap.size W W') : At46 W' b := by
  obtain ⟨old, hb, ho⟩ := h
  exact ⟨old, hb.below k hb.lt, ho⟩
theorem at46_set {W : World} {b : Nat} (h : At46 W b) (X : Array Value) : Blk (W.setRow b X) b 46 X := by
  obtain ⟨old, hb, _⟩ := h
  exact setRow_heap _ _ _ _ _ _ hb
attribute [local go_sem] st_new st_any sl_one sl_two sl_three
/-- what Leaf returns. -/
def leafR (l : Ln) (d : List UInt8) : Nd := if l.ok then leafV l d else nd0
def leafE (l : Ln) : Int := if l.ok then 0 else 410
theorem leafR_len (l : Ln) (d : List UInt8) : (leafR l d).d.length = 32 := by unfold leafR; split; exact leafV_len _ _; rfl
theorem leaf_any (l : Ln) (d : List UInt8) (w : World) (hd : d.length = 32) (hT : Tabs w) : Calls Tryd.prog 54 #[.agg l.arr, .agg (u8s d).toArray] w fun e w' => e = .returned (.tuple #[.agg (leafR l d).arr, .int .i64 (leafE l)]) ∧ Below w.heap.size w w' := by
  unfold leafR leafE
  cases h : l.ok
  · exact leaf_no l _ w h
  · exact leaf_yes l d w h hd hT
theorem below_drew_of {B : Nat} {w W : World} (k : Below B w.drew W) : Below B w W := ⟨k.os, k.tape, k.output, k.size, k.block⟩
/-- what the region of leaves reads. -/
abbrev LSS (Wb : World) (g8 gD : Nat) (l : Ln) (d : List UInt8) (W : World) : Prop :=
  W.cell? ⟨g8, 0, none⟩ = some (.int .i64 l.co) ∧ W.cell? ⟨g8, 1, none⟩ = some (.int .i64 l.te) ∧ W.cell? ⟨g8, 2, none⟩ = some (.int .i64 l.gr) ∧ W.cell? ⟨g8, 3, none⟩ = some (.int .i64 l.cr) ∧ W.cell? ⟨g8, 4, none⟩ = some (.int .i64 l.ca) ∧
  W.rangeAt gD 0 (u8s d) ∧ Blk W g8 65 l.arr ∧ Blk W gD 41 (u8s d).toArray ∧ Below Wb.heap.size Wb W
theorem blk_range {W : World} {g : Nat} {t : TypeId} {cs : List Value} (h : Blk W g t cs.toArray) : W.rangeAt g 0 cs := fun j v hv => by
  rw [Nat.zero_add, h.cell j, List.getElem?_toArray]; exact hv
theorem lss_of {Wb W : World} {g8 gD : Nat} {l : Ln} {d : List UInt8} (h8 : Blk W g8 65 l.arr) (hD : Blk W gD 41 (u8s d).toArray) (b : Below Wb.heap.size Wb W) : LSS Wb g8 gD l d W :=
  ⟨h8.cell 0, h8.cell 1, h8.cell 2, h8.cell 3, h8.cell 4, blk_range hD, h8, hD, b⟩
theorem lss_next {Wb W W' : World} {g8 gD : Nat} {l : Ln} {d : List UInt8} (h : LSS Wb g8 gD l d W) (k : Below W.heap.size W W') : LSS Wb g8 gD l d W' :=
  lss_of (h.2.2.2.2.2.2.1.below k h.2.2.2.2.2.2.1.lt) (h.2.2.2.2.2.2.2.1.below k h.2.2.2.2.2.2.2.1.lt) (bl h.2.2.2.2.2.2.2.2 k)
theorem lss_alloc {Wb W : World} {g8 gD : Nat} {l : Ln} {d : List UInt8} (h : LSS Wb g8 gD l d W) (o : Obj) : LSS Wb g8 gD l d (W.alloc o) := lss_next h (Below.alloc (Below.refl _ W) (Nat.le_refl _) o)
theorem lss_row {Wb W : World} {g8 gD : Nat} {l : Ln} {d : List UInt8} (h : LSS Wb g8 gD l d W) {b : Nat} (hb : Wb.heap.size ≤ b) (h8 : g8 < Wb.heap.size) (hD : gD < Wb.heap.size) (X : Array Value) : LSS Wb g8 gD l d (W.setRow b X) :=
  lss_of ((setRow_other _ _ _ _ (by omega)).trans h.2.2.2.2.2.2.1) ((setRow_other _ _ _ _ (by omega)).trans h.2.2.2.2.2.2.2.1) (below_setRow h.2.2.2.2.2.2.2.2 hb _)
theorem lss_b {Wb W : World} {g8 gD : Nat} {l : Ln} {d : List UInt8} (h : LSS Wb g8 gD l d W) : Below Wb.heap.size Wb W := h.2.2.2.2.2.2.2.2
theorem ge_of {Wb W W' : World} {g8 gD : Nat} {l : Ln} {d : List UInt8} (h : LSS Wb g8 gD l d W) (_k : Below (W.alloc (.cells nd0.arr 46)).heap.size (W.alloc (.cells nd0.arr 46)) W') : Wb.heap.size ≤ W.heap.size := (lss_b h).size
set_option maxRecDepth 100000 in
set_option maxHeartbeats 600000 in
theorem leaves_any (A : Option Addr) (n c : Nat) (ls : List Ln) (d : List UInt8) (w : World) (h : LS w A n c ls) (hd : d.length = 32) (hn : n ≤ 1000) (hT : Tabs w) :
    Calls Tryd.prog 58 #[.slice A n c, .agg (u8s d).toArray] w fun e w' => ∃ A' n' c', e = .returned (.tuple #[.slice A' n' c', .bool (ls.all Ln.ok)]) ∧ NS w' A' n' c' (if ls.all Ln.ok then leavesL d 0 ls else []) ∧ Below w.heap.size w w' := by
  have hle := h.le
  have hcap := h.cap
  have hl := h.len
  have HH := Lib.hid h
  have HT := Lib.hid hT
  have hD := Blk.new w 41 (u8s d).toArray
  have b : Below w.heap.size w (w.alloc (.cells (u8s d).toArray 41)) := (Below.refl _ w).alloc (Nat.le_refl _) _
  have hsz : (w.alloc (.cells (u8s d).toArray 41)).heap.size = w.heap.size + 1 := by simp
  have hu41 := Tryd.underlying41
  have hi41 : (Tryd.prog.info? 41).map (·.size) = some (u8s d).length := by
    obtain ⟨i41, h41, z41, s41, _⟩ := info_parts info41
    rw [h41, u8s_length, hd]; simp [s41]
  have HD := Lib.hid hd
  have HL := Lib.hid hl
  obtain ⟨RL, hRL⟩ : ∃ R, (if ls.all Ln.ok then leavesL d 0 ls else []) = R := ⟨_, rfl⟩
  obtain ⟨KB, hKB⟩ : ∃ b, ls.all Ln.ok = b := ⟨_, rfl⟩
  rw [hRL, hKB]
  have HRL := Lib.hid hRL
  have HKB := Lib.hid hKB
  clear h hT hd hl hRL hKB
  go_enter Tryd.func58, Tryd.ntmps58
  go_upto_region 1 with fail
  generalize w.alloc (.cells (u8s d).toArray 41) = w1 at hD b hsz ⊢
  obtain ⟨B, hB⟩ : ∃ B, w1.heap.size = B := ⟨_, rfl⟩
  obtain ⟨gD, hgD2⟩ : ∃ g, w.heap.size = g := ⟨_, rfl⟩
  have hgD : gD < B := by omega
  have hgDw : w.heap.size < B := by omega
  rw [hgD2] at hD ⊢
  clear hgD2
  go_wp2_with fail
  go_loopw [6, 13] (fun v y wr => ∃ i : Nat, i ≤ n ∧ y = .int .i64 i ∧ wr.ownsRow B 46 34 v i (((leavesL d 0 ls).take i).flatMap Nd.cells) ∧ Below B w1 wr ∧ Hid ((ls.take i).all Ln.ok = true)) (fun _ y _ => n - (intOf y).toNat)
  case atStart => exact ⟨0, by omega, rfl, World.ownsRow_nil _ _ _ _, Below.refl _ _, Lib.hid rfl⟩
  case round =>
    obtain ⟨i, hi, rfl, hown, hbr, hall⟩ := hrel
    by_cases hlt : i < n
    · have hlt' : (i : Int) < n := by omega
      have i0 : (0 : Int) ≤ i := by omega
      have hbw : Below w.heap.size w wr := b.trans (hbr.mono (by rw [← hB]; exact b.size))
      obtain ⟨g, o, rfl, hN, hg⟩ := ((HH.out).below hbw).at_ (by omega)
      have hil : i < ls.length := by rw [HL.out]; exact hlt
      have hc := hN i hil
      have htk := leavesL_take d ls i hil
      have hta : (ls.take (i + 1)).all Ln.ok = ls[i].ok := by
        rw [List.take_succ_eq_append_getElem hil, List.all_append, hall.out]; simp
      have hfa : ls[i].ok = false → ls.all Ln.ok = false := fun h => by
        rw [Bool.eq_false_iff]
        intro h2
        rw [List.all_eq_true] at h2
        rw [h2 ls[i] (List.getElem_mem _)] at h
        cases h
      obtain ⟨l, hle2⟩ : ∃ l, ls[i] = l := ⟨_, rfl⟩
      rw [hle2] at hc htk hta hfa
      have c0 : wr.cell? ⟨g, o + i * 5, none⟩ = some (.int .i64 l.co) := hc 0 _ rfl
      have c1 : wr.cell? ⟨g, o + i * 5 + 1, none⟩ = some (.int .i64 l.te) := hc 1 _ rfl
      have c2 : wr.cell? ⟨g, o + i * 5 + 2, none⟩ = some (.int .i64 l.gr) := hc 2 _ rfl
      have c3 : wr.cell? ⟨g, o + i * 5 + 3, none⟩ = some (.int .i64 l.cr) := hc 3 _ rfl
      have c4 : wr.cell? ⟨g, o + i * 5 + 4, none⟩ = some (.int .i64 l.ca) := hc 4 _ rfl
      have HTK := Lib.hid htk; have HTA := Lib.hid hta; have HFA := Lib.hid hfa
      clear hc hN htk hta hfa hle2
      go_upto_region 5 with fail
      have hX8 := Blk.new wr 65 l.arr
      have hD1 := ((hD.below hbr hgD).alloc (.cells l.arr 65) : Blk (wr.alloc (.cells l.arr 65)) gD 41 (u8s d).toArray)
      have kb0 : Below wr.heap.size wr (wr.alloc (.cells l.arr 65)) := Below.alloc (Below.refl _ wr) (Nat.le_refl _) _
      have e5 : wr.alloc (.cells #[.int .i64 l.co, .int .i64 l.te, .int .i64 l.gr, .int .i64 l.cr, .int .i64 l.ca] 65) = wr.alloc (.cells l.arr 65) := rfl
      rw [e5]
      generalize wr.alloc (.cells l.arr 65) = Wb at hX8 hD1 kb0 ⊢
      obtain ⟨g8, hg8⟩ : ∃ g, wr.heap.size = g := ⟨_, rfl⟩
      rw [hg8] at hX8 ⊢
      have h8b := hX8.lt
      have hDb := hD1.lt
      have hlr := leafR_len l (saltV d 1 i)
      have oX := okX _ hlr
      have C56 := Lib.hid fun (W : World) (k : Below Wb.heap.size Wb W) => tsalt_any d 1 i W HD.out ((HT.out).ext (bl (bl hbw kb0) k))
      have c54 := fun (W : World) (k : Below Wb.heap.size Wb W) => leaf_any l (saltV d 1 i) W (tagB_length _ _) ((HT.out).ext (bl (bl hbw kb0) k))
      obtain ⟨s, hs⟩ : ∃ s, saltV d 1 i = s := ⟨_, rfl⟩
      simp only [hs] at C56 c54 oX
      obtain ⟨X, hX⟩ : ∃ X, (leafR l s).arr = X := ⟨_, rfl⟩
      obtain ⟨E, hE⟩ : ∃ E, leafE l = E := ⟨_, rfl⟩
      simp only [hX, hE] at c54 oX
      have C54 := Lib.hid (show ∀ (W : World), Below Wb.heap.size Wb W → Calls Tryd.prog 54 #[.agg #[.int .i64 l.co, .int .i64 l.te, .int .i64 l.gr, .int .i64 l.cr, .int .i64 l.ca], .agg (u8s s).toArray] W fun e w' => e = .returned (.tuple #[.agg X, .int .i64 E]) ∧ Below W.heap.size W w' from c54)
      have s0 : LSS Wb g8 gD l d Wb.drew := lss_of (W := Wb.drew) hX8 hD1 (Below.refl _ Wb).drew
      have HX := Lib.hid hX; have HE := Lib.hid hE; have HS := Lib.hid hs
      have h46 : ∀ (W : World), (∃ x, W = x) := fun W => ⟨W, rfl⟩
      clear c0 c1 c2 c3 c4 c54 hlr hX hE hs hX8 hD1 e5 hg8 h46
      go_region_held3 (fun W => W.cell? ⟨g8, 0, none⟩ = some (.int .i64 l.co) ∧ W.cell? ⟨g8, 1, none⟩ = some (.int .i64 l.te) ∧ W.cell? ⟨g8, 2, none⟩ = some (.int .i64 l.gr) ∧ W.cell? ⟨g8, 3, none⟩ = some (.int .i64 l.cr) ∧ W.cell? ⟨g8, 4, none⟩ = some (.int .i64 l.ca) ∧
  W.rangeAt gD 0 (u8s d) ∧ Blk W g8 65 l.arr ∧ Blk W gD 41 (u8s d).toArray ∧ Below Wb.heap.size Wb W)
        (first | exact s0 | exact sC | exact sA | exact lss_alloc sC _ | exact lss_alloc sA _ | exact lss_alloc s0 _ | exact lss_row sC nC.2 h8b hDb _)
        (first | (go_at_call 56; refine (C56.out _ (lss_b (by assumption))).mono ?_; rintro e wA ⟨rfl, kA⟩; have sA := lss_next (Wb := Wb) (g8 := g8) (gD := gD) (l := l) (d := d) (by assumption) kA; (first | have nA : At46 wA Wb.heap.size ∧ Wb.heap.size ≤ Wb.heap.size := And.intro (at46_of rfl (below_undrew kA)) (Nat.le_refl _) | skip)) | (go_at_call 54; refine (C54.out _ (lss_b (by assumption))).mono ?_; rintro e wC ⟨rfl, kC⟩; have sC := lss_next (Wb := Wb) (g8 := g8) (gD := gD) (l := l) (d := d) (by assumption) kC; (first | have nC := And.intro (at46_keep nA.1 kC) nA.2 | have nC := And.intro (at46_of rfl kC) (lss_b sA).size | skip)))
      all_goals (
        first
        | (have hb9 := Blk.new wC 46 X
           have k9 : Below Wb.heap.size Wb (wC.alloc (.cells X 46)) := (lss_b sC).alloc (lss_b sC).size _
           obtain ⟨b9, hb9e⟩ : ∃ b, wC.heap.size = b := ⟨_, rfl⟩
           rw [hb9e] at hb9 ⊢
           generalize wC.alloc (.cells X 46) = W9 at hb9 k9 ⊢)
        | (have hb9 := at46_set nC.1 X
           have k9 := below_setRow (lss_b sC) nC.2 X
           obtain ⟨b9, hb9e⟩ : ∃ b, wA.heap.size = b := ⟨_, rfl⟩
           rw [hb9e] at hb9 k9 ⊢
           generalize wC.setRow b9 X = W9 at hb9 k9 ⊢)
        | (have hb9 := at46_set nC.1 X
           have k9 := below_setRow (lss_b sC) nC.2 X
           generalize wC.setRow Wb.heap.size X = W9 at hb9 k9 ⊢
           obtain ⟨b9, hb9e⟩ : ∃ b, Wb.heap.size = b := ⟨_, rfl⟩
           rw [hb9e] at hb9 ⊢))
      all_goals (
        have kW := bl kb0 k9
        have hown9 := owns_below kW hown
        have hbr9 : Below B w1 W9 := hbr.trans (kW.mono (by have := hbr.size; omega))
        clear kA kC s0 hb9e C54 C56 k9 kb0 kW hown hbr hbw hD
        have HBR9 := Lib.hid hbr9
        clear hbr9
        have l0 := ld_blk hb9 oX
        cases hok : l.ok
        · have hE0 : E = 410 := by rw [← HE.out]; unfold leafE; rw [hok]; rfl
          have hf := HFA.out hok
          have HF := Lib.hid hf
          subst hE0
          clear hf hok
          go_wp2_with fail
          go_ret2
          exact ⟨none, 0, 0, by rw [← HKB.out, HF.out]; rfl, by rw [← HRL.out, HF.out]; exact ns_nil _, b.trans (HBR9.out.mono (by omega))⟩
        · have hE0 : E = 0 := by rw [← HE.out]; unfold leafE; rw [hok]; rfl
          subst hE0
          have HOK := Lib.hid hok
          clear hok
          have hbs : B ≤ (W9.alloc (.cells X 46)).heap.size := by have := HBR9.out.size; simp; omega
          have hBx : Blk (W9.alloc (.cells X 46)) W9.heap.size 46 (leafR l s).arr := by rw [HX.out]; exact Blk.new _ _ _
          have hownx := hown9.alloc (.cells X 46)
          go_wp2_with (at_builtin; refine wpList_append_node rfl (.tmp 28) (.tmp 30) rfl B i _ _ (leafR l s) (leafR_len l s) W9.heap.size rfl rfl hownx hBx (by omega) hbs ?_)
          intro v2 w2 ho2 hb2
          have e9 : List.flatMap Nd.cells (List.take i (leavesL d 0 ls)) ++ (leafR l s).cells = List.flatMap Nd.cells (List.take (i + 1) (leavesL d 0 ls)) := by
            rw [HTK.out, HS.out, List.flatMap_append, List.flatMap_singleton]; unfold leafR; rw [HOK.out]; rfl
          rw [e9] at ho2
          replace hb2 := (HBR9.out.alloc (by have := HBR9.out.size; omega) (.cells X 46)).trans hb2
          have hta : Hid ((ls.take (i + 1)).all Ln.ok = true) := Lib.hid (by rw [HTA.out, HOK.out])
          clear hownx hBx hbs hown9 l0 hb9 e9
          go_wp2_with fail
          go_roundw
          case rel => exact ⟨i + 1, by omega, by go_num, ho2, hb2, hta⟩
          case measure => simp [intOf]; omega)
    · obtain rfl : i = n := by omega
      have hl := HL.out
      have ha : ls.all Ln.ok = true := by have := hall.out; rwa [List.take_of_length_le (by omega)] at this
      rw [List.take_of_length_le (by rw [leavesL_len]; omega)] at hown
      obtain ⟨A2, c2, rfl, hns⟩ := own_ns hown (by rw [leavesL_len]; exact hl) (by omega) (leavesL_dig d 0 ls)
      have HA := Lib.hid ha
      have HNS := Lib.hid hns
      have hbw : Below w.heap.size w wr := b.trans (hbr.mono (by omega))
      clear ha hns hown hl
      go_wp2_with fail
      go_ret2
      exact ⟨A2, i, c2, by rw [← HKB.out, HA.out]; rfl, by rw [← HRL.out, HA.out]; exact HNS.out, hbw⟩
end Go.Proofs.YtedokiemlkccaaaDoor
