/- The path of the reference. -/
import Derived.Test.YtedokiemlkccaaaDoorFF
set_option linter.all false
namespace Go.Proofs.YtedokiemlkccaaaDoor
open Go.RowKit
open Go.RowKit Go.Shelf
attribute [local go_sem] Oper.semAt_some
attribute [local go_sem ↓] ld46_in st46_in bs46_in bd46_in
attribute [local go_sem] st_new st_any sl_one sl_two sl_three
/-- the path as the reference lays it. -/
def rpL (at_ : Nat) (ns : List Nd) : List Nd :=
  if h : 2 ≤ ns.length then
    if at_ < halfN ns.length then rpL at_ (ns.take (halfN ns.length)) ++ [rtV (ns.drop (halfN ns.length))] else rpL (at_ - halfN ns.length) (ns.drop (halfN ns.length)) ++ [rtV (ns.take (halfN ns.length))]
  else []
termination_by ns.length
decreasing_by
  · have := half_spec h; rw [List.length_take]; omega
  · have := half_spec h; rw [List.length_drop]; omega
theorem rpL_end {at_ : Nat} {ns : List Nd} (h : ¬ 2 ≤ ns.length) : rpL at_ ns = [] := by rw [rpL, dif_neg h]
theorem rpL_left {at_ : Nat} {ns : List Nd} (h : 2 ≤ ns.length) (h2 : at_ < halfN ns.length) : rpL at_ ns = rpL at_ (ns.take (halfN ns.length)) ++ [rtV (ns.drop (halfN ns.length))] := by rw [rpL, dif_pos h, if_pos h2]
theorem rpL_right {at_ : Nat} {ns : List Nd} (h : 2 ≤ ns.length) (h2 : ¬ at_ < halfN ns.length) : rpL at_ ns = rpL (at_ - halfN ns.length) (ns.drop (halfN ns.length)) ++ [rtV (ns.take (halfN ns.length))] := by rw [rpL, dif_pos h, if_neg h2]
theorem rpL_len : ∀ (m at_ : Nat) (ns : List Nd), ns.length ≤ m → (rpL at_ ns).length ≤ ns.length
  | 0, at_, ns, h => by rw [rpL_end (by omega)]; simp
  | m + 1, at_, ns, h => by
    by_cases h2 : 2 ≤ ns.length
    · have hs := half_spec h2
      by_cases h3 : at_ < halfN ns.length
      · have := rpL_len m at_ (ns.take (halfN ns.length)) (by rw [List.length_take]; omega)
        rw [rpL_left h2 h3, List.length_append, List.length_singleton]
        rw [List.length_take] at this
        omega
      · have := rpL_len m (at_ - halfN ns.length) (ns.drop (halfN ns.length)) (by rw [List.length_drop]; omega)
        rw [rpL_right h2 h3, List.length_append, List.length_singleton]
        rw [List.length_drop] at this
        omega
    · rw [rpL_end h2]; simp
theorem rpL_dig : ∀ (m at_ : Nat) (ns : List Nd), ns.length ≤ m → (∀ x ∈ ns, x.d.length = 32) → ∀ x ∈ rpL at_ ns, x.d.length = 32
  | 0, at_, ns, h, _ => by rw [rpL_end (by omega)]; simp
  | m + 1, at_, ns, h, hd => by
    have d1 : ∀ k, ∀ x ∈ ns.take k, x.d.length = 32 := fun k x hx => hd x (List.mem_of_mem_take hx)
    have d2 : ∀ k, ∀ x ∈ ns.drop k, x.d.length = 32 := fun k x hx => hd x (List.mem_of_mem_drop hx)
    by_cases h2 : 2 ≤ ns.length
    · have hs := half_spec h2
      by_cases h3 : at_ < halfN ns.length
      · rw [rpL_left h2 h3]
        intro x hx
        rcases List.mem_append.1 hx with hx | hx
        · exact rpL_dig m at_ _ (by rw [List.length_take]; omega) (d1 _) x hx
        · rw [List.mem_singleton.1 hx]; exact rtV_len (d2 _)
      · rw [rpL_right h2 h3]
        intro x hx
        rcases List.mem_append.1 hx with hx | hx
        · exact rpL_dig m _ _ (by rw [List.length_drop]; omega) (d2 _) x hx
        · rw [List.mem_singleton.1 hx]; exact rtV_len (d1 _)
    · rw [rpL_end h2]; simp
theorem new_cells {W : World} {X : Array Value} {cs : List Value} (h : cs.toArray = X) (j : Nat) (u : Value) (hu : cs[j]? = some u) : (W.alloc (.cells X 46)).cell? ((⟨W.heap.size, 0, none⟩ : Addr).add j) = some u := by
  rw [addr_mid, Nat.zero_add, (Blk.new W 46 X).cell j, ← h, List.getElem?_toArray]; exact hu
theorem size_new {B : Nat} {w W : World} (h : Below B w W) (hB : B ≤ w.heap.size) (o : Obj) : B ≤ (W.alloc o).heap.size := by
  have := h.size; rw [World.size_alloc]; omega
/-- a path that the call has made. -/
def PathAt (W : World) (v1 v2 : Value) (L : List Nd) : Prop := Calls Tryd.prog 92 #[v1, v2] W fun e w' => ∃ v', e = .returned v' ∧ w'.ownsRow W.heap.size 46 34 v' L.length (L.flatMap Nd.cells) ∧ Below W.heap.size W w'
set_option maxRecDepth 100000 in
set_option maxHeartbeats 1000000 in
theorem rpath_one (A : Option Addr) (c : Nat) (z : Int) (w : World) : PathAt w (.slice A (1 : Nat) c) (.int .i64 z) [] := by
  unfold PathAt
  go_enter Tryd.func92, Tryd.ntmps92
  go_wp2_with fail
  go_ret
  exact ⟨_, rfl, World.ownsRow_nil _ _ _ _, Below.refl _ _⟩
set_option maxRecDepth 100000 in
set_option maxHeartbeats 2000000 in
theorem rpath_left (g o c k h at_ : Nat) (P : List Nd) (x : Nd) (w : World) (hk : 2 ≤ k) (hk9 : k ≤ 4096) (hh : halfN k = h) (hat : at_ < h) (hc : k ≤ c) (hc9 : c ≤ 9223372036854775807) (hx : x.d.length = 32) (hp9 : P.length ≤ 4096)
    (hL : ∀ W, Below w.heap.size w W → PathAt W (.slice (some ⟨g, o, none⟩) h c) (.int .i64 at_) P)
    (hR : ∀ W, Below w.heap.size w W → Calls Tryd.prog 86 #[.slice (some ⟨g, o + h * 34, none⟩) (k - h : Nat) (c - h : Nat)] W fun e w' => e = .returned (.agg x.arr) ∧ Below W.heap.size W w') :
    PathAt w (.slice (some ⟨g, o, none⟩) k c) (.int .i64 at_) (P ++ [x]) := by
  unfold PathAt at hL ⊢
  have h1 := half_spec hk
  rw [hh] at h1
  have HHalf := Lib.hid fun W => hh ▸ rhalf_any k W (by omega)
  have oX := okX x hx
  have hone : ∀ u ∈ x.cells, u.oneCell' = true := fun u hu => (Array.all_eq_true_iff_forall_mem.1 (nd_all x)) u (by unfold Nd.arr; simpa using hu)
  have hcl := Nd.len x hx
  have e0 : (P ++ [x]).flatMap Nd.cells = P.flatMap Nd.cells ++ x.cells := by rw [List.flatMap_append, List.flatMap_singleton]
  have e1 : (P ++ [x]).length = P.length + 1 := by simp
  rw [e0, e1]
  obtain ⟨i46, hi', hzr, hsize, hby⟩ := info_parts info46
  obtain ⟨PL, hPL⟩ : ∃ L, P.flatMap Nd.cells = L := ⟨_, rfl⟩
  obtain ⟨pn, hpn⟩ : ∃ L, P.length = L := ⟨_, rfl⟩
  rw [hPL, hpn]
  rw [hpn] at hp9
  simp only [hPL, hpn] at hL
  obtain ⟨X, hX⟩ : ∃ X, x.arr = X := ⟨_, rfl⟩
  simp only [hX] at hR oX
  have hXt : x.cells.toArray = X := hX
  obtain ⟨cs, hcs⟩ : ∃ cs, x.cells = cs := ⟨_, rfl⟩
  rw [hcs] at hone hcl hXt ⊢
  have HL := Lib.hid hL; have HR := Lib.hid hR; have HONE := Lib.hid hone; have HXT := Lib.hid hXt
  have d1 : ((k : Int) == 1) = false := by simp; omega
  have i0 : (0 : Int) ≤ (h : Int) := by omega
  have i1 : (h : Int) ≤ (k : Int) := by omega
  have i2 : (h : Int) ≤ (c : Int) := by omega
  have i3 : (k : Int) ≤ (c : Int) := by omega
  have i4 : (at_ : Int) < (h : Int) := by omega
  have d3 : (c = h) = False := eq_false (by omega)
  have k1 : pn + 1 ≤ maxLen := by unfold maxLen; omega
  have k2 : (pn + 1) * 48 ≤ 140737488355328 := by omega
  clear hL hR hone hh hX hXt hcs hPL hpn e0 e1 hx
  go_enter Tryd.func92, Tryd.ntmps92
  go_wp2_with fail
  refine (HHalf.out _).mono ?_
  rintro e w2 ⟨rfl, rfl⟩
  go_upto_region 5 with fail
  have s0 : Below w.heap.size w w.drew := (Below.refl _ w).drew
  go_region_held3 (fun W => Below w.heap.size w W)
    (first | exact s0 | exact sA | exact sB | exact sC | exact sB.alloc sB.size _)
    (first | (go_at_call 92; refine (HL.out _ s0).mono ?_; rintro e wA ⟨v1, rfl, ho1, kA⟩; have sA := bl s0 kA; have HO1 := Lib.hid ho1; clear ho1) | (go_at_call 86; refine (HR.out _ sA).mono ?_; rintro e wB ⟨rfl, kB⟩; have sB := bl sA kB; have HO2 := Lib.hid ((owns_below kB HO1.out).alloc (.cells X 46)); have hbz := size_new sB (Nat.le_refl _) (.cells X 46); have HBX := Lib.hid (new_cells (W := wB) HXT.out)) | (refine step_append_own (by rfl) (.tmp 19) (.tmp 24) 44 (by rfl) w.drew.heap.size 46 i46 (.agg nd0.arr) 34 48 Tryd.underlying44 hi' hzr hsize hby rfl (by decide) v1 pn _ (by rfl) HO2.out ⟨wB.heap.size, 0, none⟩ 1 1 cs (by rfl) hcl HBX.out HONE.out k1 k2 hbz ?_; intro v3 w3 ho3 kC; have HO3 := Lib.hid ho3; clear ho3; have sC : Below w.heap.size w w3 := (sB.alloc sB.size (.cells X 46)).trans kC))
  clear HO1 HO2
  go_wp2_with fail
  go_ret
  exact ⟨v3, rfl, HO3.out, sC⟩
set_option maxRecDepth 100000 in
set_option maxHeartbeats 2000000 in
theorem rpath_right (g o c k h at_ : Nat) (P : List Nd) (x : Nd) (w : World) (hk : 2 ≤ k) (hk9 : k ≤ 4096) (hh : halfN k = h) (hat : h ≤ at_) (hat9 : at_ ≤ 4096) (hc : k ≤ c) (hc9 : c ≤ 9223372036854775807) (hx : x.d.length = 32) (hp9 : P.length ≤ 4096)
    (hL : ∀ W, Below w.heap.size w W → PathAt W (.slice (some ⟨g, o + h * 34, none⟩) (k - h : Nat) (c - h : Nat)) (.int .i64 ((at_ : Int) - (h : Int))) P)
    (hR : ∀ W, Below w.heap.size w W → Calls Tryd.prog 86 #[.slice (some ⟨g, o, none⟩) h c] W fun e w' => e = .returned (.agg x.arr) ∧ Below W.heap.size W w') :
    PathAt w (.slice (some ⟨g, o, none⟩) k c) (.int .i64 at_) (P ++ [x]) := by
  unfold PathAt at hL ⊢
  have h1 := half_spec hk
  rw [hh] at h1
  have HHalf := Lib.hid fun W => hh ▸ rhalf_any k W (by omega)
  have oX := okX x hx
  have hone : ∀ u ∈ x.cells, u.oneCell' = true := fun u hu => (Array.all_eq_true_iff_forall_mem.1 (nd_all x)) u (by unfold Nd.arr; simpa using hu)
  have hcl := Nd.len x hx
  have e0 : (P ++ [x]).flatMap Nd.cells = P.flatMap Nd.cells ++ x.cells := by rw [List.flatMap_append, List.flatMap_singleton]
  have e1 : (P ++ [x]).length = P.length + 1 := by simp
  rw [e0, e1]
  obtain ⟨i46, hi', hzr, hsize, hby⟩ := info_parts info46
  obtain ⟨PL, hPL⟩ : ∃ L, P.flatMap Nd.cells = L := ⟨_, rfl⟩
  obtain ⟨pn, hpn⟩ : ∃ L, P.length = L := ⟨_, rfl⟩
  rw [hPL, hpn]
  rw [hpn] at hp9
  simp only [hPL, hpn] at hL
  obtain ⟨X, hX⟩ : ∃ X, x.arr = X := ⟨_, rfl⟩
  simp only [hX] at hR oX
  have hXt : x.cells.toArray = X := hX
  obtain ⟨cs, hcs⟩ : ∃ cs, x.cells = cs := ⟨_, rfl⟩
  rw [hcs] at hone hcl hXt ⊢
  have HL := Lib.hid hL; have HR := Lib.hid hR; have HONE := Lib.hid hone; have HXT := Lib.hid hXt
  have d1 : ((k : Int) == 1) = false := by simp; omega
  have i0 : (0 : Int) ≤ (h : Int) := by omega
  have i1 : (h : Int) ≤ (k : Int) := by omega
  have i2 : (h : Int) ≤ (c : Int) := by omega
  have i3 : (k : Int) ≤ (c : Int) := by omega
  have i4 : ¬ (at_ : Int) < (h : Int) := by omega
  have i5 : IntKind.i64.wrap ((at_ : Int) - (h : Int)) = (at_ : Int) - (h : Int) := IntWalk.i64_in _ (by omega)
  have d3 : (c = h) = False := eq_false (by omega)
  have k1 : pn + 1 ≤ maxLen := by unfold maxLen; omega
  have k2 : (pn + 1) * 48 ≤ 140737488355328 := by omega
  clear hL hR hone hh hX hXt hcs hPL hpn e0 e1 hx
  go_enter Tryd.func92, Tryd.ntmps92
  go_wp2_with fail
  refine (HHalf.out _).mono ?_
  rintro e w2 ⟨rfl, rfl⟩
  go_upto_region 6 with fail
  have s0 : Below w.heap.size w w.drew := (Below.refl _ w).drew
  go_region_held3 (fun W => Below w.heap.size w W)
    (first | exact s0 | exact sA | exact sB | exact sC | exact sB.alloc sB.size _)
    (first | (go_at_call 92; refine (HL.out _ s0).mono ?_; rintro e wA ⟨v1, rfl, ho1, kA⟩; have sA := bl s0 kA; have HO1 := Lib.hid ho1; clear ho1) | (go_at_call 86; refine (HR.out _ sA).mono ?_; rintro e wB ⟨rfl, kB⟩; have sB := bl sA kB; have HO2 := Lib.hid ((owns_below kB HO1.out).alloc (.cells X 46)); have hbz := size_new sB (Nat.le_refl _) (.cells X 46); have HBX := Lib.hid (new_cells (W := wB) HXT.out)) | (refine step_append_own (by rfl) (.tmp 32) (.tmp 37) 44 (by rfl) w.drew.heap.size 46 i46 (.agg nd0.arr) 34 48 Tryd.underlying44 hi' hzr hsize hby rfl (by decide) v1 pn _ (by rfl) HO2.out ⟨wB.heap.size, 0, none⟩ 1 1 cs (by rfl) hcl HBX.out HONE.out k1 k2 hbz ?_; intro v3 w3 ho3 kC; have HO3 := Lib.hid ho3; clear ho3; have sC : Below w.heap.size w w3 := (sB.alloc sB.size (.cells X 46)).trans kC))
  clear HO1 HO2
  go_wp2_with fail
  go_ret
  exact ⟨v3, rfl, HO3.out, sC⟩
/-- path of the reference. -/
theorem rpath_any : ∀ (m : Nat) (A : Option Addr) (n c at_ : Nat) (ns : List Nd) (w : World), n ≤ m → n ≤ 4096 → at_ < n → NS w A n c ns → validB ns = true → PathAt w (.slice A n c) (.int .i64 at_) (rpL at_ ns)
  | m, A, n, c, at_, ns, w, hm, h9, hat, h, hv => by
    have hl := h.len
    by_cases h2 : 2 ≤ n
    · match m, hm with
      | 0, hm => omega
      | m + 1, hm =>
        have hs := half_spec h2
        have hle := h.le
        obtain ⟨g, o, rfl, _, _⟩ := h.at_ (by omega)
        have l1 : (ns.take (halfN n)).length = halfN n := by rw [List.length_take]; omega
        have l2 : (ns.drop (halfN n)).length = n - halfN n := by rw [List.length_drop]; omega
        have sp := validB_split (halfN n) hv
        by_cases h3 : at_ < halfN n
        · have e := rpL_left (at_ := at_) (ns := ns) (by omega) (by rw [hl]; exact h3)
          rw [hl] at e
          rw [e]
          have hp := rpL_len (ns.take (halfN n)).length at_ _ (Nat.le_refl _)
          exact rpath_left g o c n (halfN n) at_ _ _ w h2 h9 rfl h3 hle h.cap (rtV_len (fun x hx => h.dig x (List.mem_of_mem_drop hx))) (by omega)
            (fun W hb => rpath_any m _ _ c at_ _ W (by omega) (by omega) h3 (ns_left (h.below hb) hs.1 (by omega)) sp.1)
            (fun W hb => rroot_any (n - halfN n) _ _ _ _ W (Nat.le_refl _) (by omega) (ns_right (h.below hb) (by omega)) sp.2)
        · have e := rpL_right (at_ := at_) (ns := ns) (by omega) (by rw [hl]; exact h3)
          rw [hl] at e
          rw [e]
          have hp := rpL_len (ns.drop (halfN n)).length (at_ - halfN n) _ (Nat.le_refl _)
          refine rpath_right g o c n (halfN n) at_ _ _ w h2 h9 rfl (by omega) (by omega) hle h.cap (rtV_len (fun x hx => h.dig x (List.mem_of_mem_take hx))) (by omega)
            (fun W hb => ?_)
            (fun W hb => rroot_any (halfN n) _ _ _ _ W (Nat.le_refl _) (by omega) (ns_left (h.below hb) hs.1 (by omega)) sp.1)
          have := rpath_any m _ _ _ (at_ - halfN n) _ W (by omega) (by omega) (by omega) (ns_right (h.below hb) (k := halfN n) (by omega)) sp.2
          rwa [show ((at_ - halfN n : Nat) : Int) = (at_ : Int) - (halfN n : Int) by omega] at this
    · match ns, hl with
      | [], hl => simp at hl; omega
      | [x], hl =>
        subst hl
        rw [rpL_end (by simp)]
        exact rpath_one A c at_ w
      | _ :: _ :: _, hl => simp at hl; omega
open Go.RowKit Go.Shelf
attribute [local go_sem] Oper.semAt_some
attribute [local go_sem ↓] ld46_in st46_in bs46_in bd46_in
attribute [local go_sem] st_new st_any sl_one sl_two sl_three
theorem part_take (ns : List Nd) (lo hi k : Nat) (hk : k ≤ hi - lo) : ((ns.drop lo).take (hi - lo)).take k = (ns.drop lo).take (lo + k - lo) := by
  rw [List.take_take, Nat.min_eq_left hk, show lo + k - lo = k by omega]
theorem part_drop (ns : List Nd) (lo hi k : Nat) : ((ns.drop lo).take (hi - lo)).drop k = (ns.drop (lo + k)).take (hi - (lo + k)) := by
  rw [List.drop_take, List.drop_drop, show hi - lo - k = hi - (lo + k) by omega]
theorem rpL_way (ns : List Nd) (at_ : Nat) : ∀ (m lo hi : Nat), hi - lo ≤ m → lo < hi → hi ≤ ns.length → lo ≤ at_ → at_ < hi →
    rpL (at_ - lo) ((ns.drop lo).take (hi - lo)) = ((wayL at_ lo hi).map fun s => rtV (partL ns s)).reverse
  | 0, lo, hi, h, h1, _, _, _ => by omega
  | m + 1, lo, hi, h, h1, h9, h3, h4 => by
    have hpl : ((ns.drop lo).take (hi - lo)).length = hi - lo := by rw [List.length_take, List.length_drop]; omega
    by_cases h2 : 2 ≤ hi - lo
    · have hs := half_spec h2
      by_cases h5 : at_ < lo + halfN (hi - lo)
      · rw [wayL_left h2 h5, rpL_left (by rw [hpl]; exact h2) (by rw [hpl]; omega), hpl, part_take ns lo hi _ (by omega), part_drop, rpL_way ns at_ m lo (lo + halfN (hi - lo)) (by omega) (by omega) (by omega) h3 h5, List.map_cons, List.reverse_cons]
        rfl
      · rw [wayL_right h2 h5, rpL_right (by rw [hpl]; exact h2) (by rw [hpl]; omega), hpl, part_take ns lo hi _ (by omega), part_drop, show at_ - lo - halfN (hi - lo) = at_ - (lo + halfN (hi - lo)) by omega, rpL_way ns at_ m (lo + halfN (hi - lo)) hi (by omega) (by omega) h9 (by omega) h4, List.map_cons, List.reverse_cons]
        rfl
    · rw [wayL_end h2, rpL_end (by rw [hpl]; exact h2)]; rfl
theorem part_root {ns : List Nd} (he : rootE ns = true) (s : Bool × Nat × Nat) : rootV (partL ns s) = rtV (partL ns s) := by
  obtain ⟨h9, hv⟩ := rootE_parts he
  refine rootV_rtV (rootE_of ?_ ?_)
  · unfold partL; rw [List.length_take, List.length_drop]; omega
  · unfold partL; exact (validB_split _ (validB_split _ hv).2).1
theorem pathL_rpL {ns : List Nd} {at_ : Nat} (he : rootE ns = true) (hat : at_ < ns.length) : pathL ns at_ = rpL at_ ns := by
  have hp : pathE ns at_ = 0 := by unfold pathE; rw [if_pos he, if_neg (by omega)]
  have h := rpL_way ns at_ ns.length 0 ns.length (by omega) (by omega) (Nat.le_refl _) (by omega) hat
  rw [List.drop_zero, Nat.sub_zero, Nat.sub_zero, List.take_length] at h
  unfold pathL
  rw [if_pos hp, Int.toNat_natCast, h]
  congr 1
  exact List.map_congr_left (fun s _ => part_root he s)
set_option maxRecDepth 100000 in
set_option maxHeartbeats 1000000 in
/-- Path of the reference. -/
theorem rPath_any (A : Option Addr) (n c : Nat) (ns : List Nd) (at_ : Int) (w : World) (h : NS w A n c ns) : Calls Tryd.prog 47 #[.slice A n c, .int .i64 at_] w fun e w' => ∃ A' n' c', e = .returned (.tuple #[.slice A' n' c', .int .i64 (pathE ns at_)]) ∧ NS w' A' n' c' (pathL ns at_) ∧ Below w.heap.size w w' := by
  have CK := Lib.hid (rchk_any A n c ns w h)
  have hle := h.le
  have hcap := h.cap
  have hl := h.len
  cases he : rootE ns
  · have e0 : pathE ns at_ = 410 := by unfold pathE; rw [he]; rfl
    have e1 : pathL ns at_ = [] := by unfold pathL; rw [e0]; rfl
    rw [he] at CK
    rw [e0, e1]
    clear h he e0 e1
    go_enter Tryd.func47, Tryd.ntmps47
    go_wp2_with fail
    refine CK.out.mono ?_
    rintro e w2 ⟨rfl, k⟩
    go_wp2_with fail
    go_ret2
    exact ⟨none, 0, 0, rfl, ns_nil _, k⟩
  · obtain ⟨h9, hv⟩ := rootE_parts he
    rw [he] at CK
    by_cases hat : at_ < 0 ∨ (ns.length : Int) ≤ at_
    · have e0 : pathE ns at_ = 1 := by unfold pathE; rw [if_pos he, if_pos hat]
      have e1 : pathL ns at_ = [] := by unfold pathL; rw [e0]; rfl
      rw [e0, e1]
      by_cases hlt : at_ < 0
      · clear h he e0 e1 hat hv
        go_enter Tryd.func47, Tryd.ntmps47
        go_wp2_with fail
        refine CK.out.mono ?_
        rintro e w2 ⟨rfl, k⟩
        go_wp2_with fail
        go_ret2
        exact ⟨none, 0, 0, rfl, ns_nil _, k⟩
      · have t2 : (n : Int) ≤ at_ := by omega
        clear h he e0 e1 hat hv
        go_enter Tryd.func47, Tryd.ntmps47
        go_wp2_with fail
        refine CK.out.mono ?_
        rintro e w2 ⟨rfl, k⟩
        go_wp2_with fail
        go_ret2
        exact ⟨none, 0, 0, rfl, ns_nil _, k⟩
    · obtain ⟨j, rfl⟩ : ∃ j : Nat, at_ = j := ⟨at_.toNat, by omega⟩
      have hj : j < ns.length := by omega
      have e0 : pathE ns j = 0 := by unfold pathE; rw [if_pos he, if_neg hat]
      rw [e0, pathL_rpL he hj]
      have CP := Lib.hid fun (W : World) (hb : Below w.heap.size w W) => rpath_any n A n c j ns W (Nat.le_refl _) (by omega) (by omega) (h.below hb) hv
      have hdg := rpL_dig ns.length j ns (Nat.le_refl _) h.dig
      have hpl := rpL_len ns.length j ns (Nat.le_refl _)
      obtain ⟨L, hL⟩ : ∃ L, rpL j ns = L := ⟨_, rfl⟩
      simp only [hL, PathAt] at CP hdg hpl ⊢
      have t1 : ¬ (j : Int) < 0 := by omega
      have t2 : (j : Int) < (n : Int) := by omega
      have HD := Lib.hid hdg
      clear h he e0 hat hv hL hdg hj
      go_enter Tryd.func47, Tryd.ntmps47
      go_wp2_with fail
      refine CK.out.mono ?_
      rintro e w2 ⟨rfl, k⟩
      go_wp2_with fail
      refine (CP.out _ k).mono ?_
      rintro e w3 ⟨v3, rfl, ho, k3⟩
      obtain ⟨A3, c3, rfl, hns⟩ := own_ns ho rfl (by omega) HD.out
      have HN := Lib.hid hns
      have b := bl k k3
      clear ho hns k k3
      go_wp2_with fail
      go_ret2
      exact ⟨A3, _, c3, rfl, HN.out, b⟩
end Go.Proofs.YtedokiemlkccaaaDoor
