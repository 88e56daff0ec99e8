/- The walk of TreeParts. -/
import Derived.Test.YtedokiemlkccaaaDoorTI
set_option linter.all false
namespace Go.Proofs.YtedokiemlkccaaaDoor
open Go.RowKit
open Go.RowKit Go.Shelf
theorem sumC_reverse : ∀ ns : List Nd, sumC ns.reverse = sumC ns
  | [] => rfl
  | n :: ns => by rw [List.reverse_cons, sumC_append, sumC_reverse ns, sumC, sumC, sumC]; omega
theorem sumP_reverse : ∀ ns : List Nd, sumP ns.reverse = sumP ns
  | [] => rfl
  | n :: ns => by rw [List.reverse_cons, sumP_append, sumP_reverse ns, sumP, sumP, sumP]; omega
theorem validB_reverse (ns : List Nd) : validB ns.reverse = validB ns := by
  unfold validB
  rw [List.all_reverse, sumC_reverse]
theorem rootE_parts {ns : List Nd} (h : rootE ns = true) : ns.length ≤ 4096 ∧ validB ns = true := by
  unfold rootE at h
  rw [Bool.and_eq_true] at h
  exact ⟨of_decide_eq_true h.1, h.2⟩
theorem rootE_of {ns : List Nd} (h : ns.length ≤ 4096) (h2 : validB ns = true) : rootE ns = true := by
  unfold rootE
  rw [h2, decide_eq_true h]; rfl
theorem rootV_fold {ns : List Nd} (h : rootE ns = true) (hne : ns ≠ []) : rootV ns = foldV ns := by
  unfold rootV
  rw [if_pos h, if_neg (fun e => hne (List.length_eq_zero_iff.1 e))]
theorem ne_len {ns : List Nd} (h : 0 < ns.length) : ns ≠ [] := fun e => by rw [e] at h; exact absurd h (by simp)
/-- the parts of a tree. -/
theorem parts_facts (ns : List Nd) (h : rootE ns = true) (h2 : 2 ≤ ns.length) (hd : ∀ x ∈ ns, x.d.length = 32) :
    rootE (ns.take (halfN ns.length)) = true ∧ rootE (ns.drop (halfN ns.length)) = true ∧ validB [rootV (ns.take (halfN ns.length)), rootV (ns.drop (halfN ns.length))] = true ∧
    joinV (rootV (ns.take (halfN ns.length))) (rootV (ns.drop (halfN ns.length))) = rootV ns ∧ rootE ns.reverse = true ∧ (rootV ns.reverse).c = (rootV ns).c ∧ (rootV ns.reverse).p = (rootV ns).p := by
  obtain ⟨hl, hv⟩ := rootE_parts h
  have hs := half_spec h2
  have sp := validB_split (halfN ns.length) hv
  have l1 : (ns.take (halfN ns.length)).length = halfN ns.length := by rw [List.length_take]; omega
  have l2 : (ns.drop (halfN ns.length)).length = ns.length - halfN ns.length := List.length_drop
  have e1 := rootE_of (ns := ns.take (halfN ns.length)) (by omega) sp.1
  have e2 := rootE_of (ns := ns.drop (halfN ns.length)) (by omega) sp.2
  have n1 : ns.take (halfN ns.length) ≠ [] := ne_len (by omega)
  have n2 : ns.drop (halfN ns.length) ≠ [] := ne_len (by omega)
  have n0 : ns ≠ [] := ne_len (by omega)
  have nr : ns.reverse ≠ [] := ne_len (by rw [List.length_reverse]; omega)
  have er : rootE ns.reverse = true := rootE_of (by rw [List.length_reverse]; exact hl) (by rw [validB_reverse]; exact hv)
  have hdr : ∀ x ∈ ns.reverse, x.d.length = 32 := fun x hx => hd x (List.mem_reverse.1 hx)
  refine ⟨e1, e2, ?_, ?_, er, ?_, ?_⟩
  · rw [rootV_fold e1 n1, rootV_fold e2 n2]
    exact foldV_join n1 n2 (by rw [List.take_append_drop]; exact hd) (by rw [List.take_append_drop]; exact hv)
  · rw [rootV_fold e1 n1, rootV_fold e2 n2, rootV_fold h n0, foldV_two h2]
  · rw [rootV_fold er nr, rootV_fold h n0, foldV_c nr hdr, foldV_c n0 hd, sumC_reverse]
  · rw [rootV_fold er nr, rootV_fold h n0, foldV_p nr hdr, foldV_p n0 hd, sumP_reverse]
theorem root_yes (A : Option Addr) (n c : Nat) (ns : List Nd) (w : World) (h : NS w A n c ns) (hT : Tabs w) (he : rootE ns = true) : Calls Tryd.prog 42 #[.slice A n c] w fun e w' => e = .returned (.tuple #[.agg (rootV ns).arr, .int .i64 0]) ∧ Below w.heap.size w w' := by
  have := root_any A n c ns w h hT
  rw [if_pos he] at this
  exact this
theorem root_no (A : Option Addr) (n c : Nat) (ns : List Nd) (w : World) (h : NS w A n c ns) (hT : Tabs w) (he : rootE ns = false) : Calls Tryd.prog 42 #[.slice A n c] w fun e w' => e = .returned (.tuple #[.agg nd0.arr, .int .i64 410]) ∧ Below w.heap.size w w' := by
  have := root_any A n c ns w h hT
  rw [he, if_neg (by simp), show rootV ns = nd0 from by unfold rootV; rw [he]; rfl] at this
  exact this
theorem own_ns {W : World} {base : Nat} {v : Value} {k : Nat} {L : List Nd} (h : W.ownsRow base 46 34 v k (L.flatMap Nd.cells)) (hl : L.length = k) (h9 : k ≤ 100000) (hd : ∀ x ∈ L, x.d.length = 32) : ∃ A c, v = .slice A k c ∧ NS W A k c L := by
  rcases own_nodes h hl hd with ⟨rfl, rfl⟩ | ⟨g, cap, rfl, hb, h1, h2, hN, _, hg⟩
  · obtain rfl := List.length_eq_zero_iff.1 hl
    exact ⟨none, 0, rfl, ns_nil W⟩
  · exact ⟨some ⟨g, 0, none⟩, cap, rfl, ⟨hl, h1, h2, (fun e => by cases e), fun _ => ⟨g, 0, rfl, hN, hg⟩, hd⟩⟩
open Go.RowKit Go.Shelf
attribute [local go_sem] Oper.semAt_some
attribute [local go_sem ↓] ld46_in st46_in bs46_in
attribute [local go_sem] st_new sl_one sl_two sl_three
set_option maxRecDepth 100000 in
set_option maxHeartbeats 2000000 in
theorem parts_big (A : Option Addr) (n c : Nat) (ns : List Nd) (w : World) (h : NS w A n c ns) (hT : Tabs w) (hn : 60 < n) : Calls Tryd.prog 10 #[.slice A n c] w fun e w' => e = .returned (.bool true) ∧ Below w.heap.size w w' := by
  have C0 := Lib.hid (sane41_any w hT)
  have hle := h.le
  have hcap := h.cap
  have t1 : (60 : Int) < (n : Int) := by omega
  clear h hT
  go_enter Tryd.func10, Tryd.ntmps10
  go_wp2_with fail
  refine C0.out.mono ?_
  rintro e w1 ⟨rfl, b⟩
  go_wp2_with fail
  go_ret
  exact ⟨rfl, b⟩
set_option maxRecDepth 100000 in
set_option maxHeartbeats 2000000 in
theorem parts_no (A : Option Addr) (n c : Nat) (ns : List Nd) (w : World) (h : NS w A n c ns) (hT : Tabs w) (hn : n ≤ 60) (he : rootE ns = false) : Calls Tryd.prog 10 #[.slice A n c] w fun e w' => e = .returned (.bool true) ∧ Below w.heap.size w w' := by
  have C0 := Lib.hid (sane41_any w hT)
  have CR := Lib.hid fun (W : World) (hb : Below w.heap.size w W) => root_no A n c ns W (h.below hb) (hT.ext hb) he
  have hle := h.le
  have hcap := h.cap
  have t1 : (n : Int) ≤ (60 : Int) := by omega
  have o0 := okX nd0 rfl
  have hZ := fun W => eqN_self nd0 ▸ eq_node nd0 nd0 rfl rfl W
  obtain ⟨na, hna⟩ : ∃ na, nd0.arr = na := ⟨_, rfl⟩
  simp only [hna] at o0 hZ CR
  have hlit : (#[Value.int IntKind.u8 0, Value.int IntKind.u8 0, Value.int IntKind.u8 0, Value.int IntKind.u8 0, Value.int IntKind.u8 0, Value.int IntKind.u8 0, Value.int IntKind.u8 0, Value.int IntKind.u8 0, Value.int IntKind.u8 0, Value.int IntKind.u8 0, Value.int IntKind.u8 0, Value.int IntKind.u8 0, Value.int IntKind.u8 0, Value.int IntKind.u8 0, Value.int IntKind.u8 0, Value.int IntKind.u8 0, Value.int IntKind.u8 0, Value.int IntKind.u8 0, Value.int IntKind.u8 0, Value.int IntKind.u8 0, Value.int IntKind.u8 0, Value.int IntKind.u8 0, Value.int IntKind.u8 0, Value.int IntKind.u8 0, Value.int IntKind.u8 0, Value.int IntKind.u8 0, Value.int IntKind.u8 0, Value.int IntKind.u8 0, Value.int IntKind.u8 0, Value.int IntKind.u8 0, Value.int IntKind.u8 0, Value.int IntKind.u8 0, Value.int IntKind.i64 0, Value.int IntKind.i64 0] : Array Value) = na := hna
  have hs : na.size = 34 := o0.1
  clear h hT hna he
  go_enter Tryd.func10, Tryd.ntmps10
  go_wp2_with fail
  refine C0.out.mono ?_
  rintro e w1 ⟨rfl, b⟩
  go_wp2_with fail
  refine (CR.out _ b).mono ?_
  rintro e w2 ⟨rfl, k⟩
  replace b := bl b k
  clear k
  go_upto_region 6 with fail
  have hk := (Bk.nil w2).new na
  replace b := b.alloc b.size (.cells na 46)
  obtain ⟨g3, hg3⟩ : ∃ g, w2.heap.size = g := ⟨_, rfl⟩
  rw [hg3] at hk ⊢
  generalize w2.alloc (.cells na 46) = w3 at hk b ⊢
  clear hg3
  have l0 := ld_blk (hk (g3, na) (by simp)) o0
  obtain ⟨b1, hb1⟩ : ∃ b, ((n : Int) == 1) = b := ⟨_, rfl⟩
  cases b1
  · go_wp2_with fail
    go_ret
    exact ⟨rfl, b⟩
  · go_wp2_with fail
    go_ret
    exact ⟨rfl, b⟩
set_option maxRecDepth 100000 in
set_option maxHeartbeats 2000000 in
theorem parts_nil (A : Option Addr) (c : Nat) (w : World) (h : NS w A 0 c []) (hT : Tabs w) : Calls Tryd.prog 10 #[.slice A (0 : Nat) c] w fun e w' => e = .returned (.bool true) ∧ Below w.heap.size w w' := by
  have C0 := Lib.hid (sane41_any w hT)
  have CR := Lib.hid fun (W : World) (hb : Below w.heap.size w W) => root_yes A 0 c [] W (h.below hb) (hT.ext hb) rfl
  have hle := h.le
  have hcap := h.cap
  have hd : (rootV []).d.length = 32 := rootV_len (by simp)
  have oX := okX _ hd
  have hE := fun W => eq_node (rootV []) nd0 hd rfl W
  obtain ⟨na, hna⟩ : ∃ na, nd0.arr = na := ⟨_, rfl⟩
  obtain ⟨X, hX⟩ : ∃ X, (rootV []).arr = X := ⟨_, rfl⟩
  obtain ⟨vb, hvb⟩ : ∃ v, eqN (rootV []) nd0 = v := ⟨_, rfl⟩
  simp only [hX] at CR oX hE
  simp only [hna, hvb] at hE
  have hlit : (#[Value.int IntKind.u8 0, Value.int IntKind.u8 0, Value.int IntKind.u8 0, Value.int IntKind.u8 0, Value.int IntKind.u8 0, Value.int IntKind.u8 0, Value.int IntKind.u8 0, Value.int IntKind.u8 0, Value.int IntKind.u8 0, Value.int IntKind.u8 0, Value.int IntKind.u8 0, Value.int IntKind.u8 0, Value.int IntKind.u8 0, Value.int IntKind.u8 0, Value.int IntKind.u8 0, Value.int IntKind.u8 0, Value.int IntKind.u8 0, Value.int IntKind.u8 0, Value.int IntKind.u8 0, Value.int IntKind.u8 0, Value.int IntKind.u8 0, Value.int IntKind.u8 0, Value.int IntKind.u8 0, Value.int IntKind.u8 0, Value.int IntKind.u8 0, Value.int IntKind.u8 0, Value.int IntKind.u8 0, Value.int IntKind.u8 0, Value.int IntKind.u8 0, Value.int IntKind.u8 0, Value.int IntKind.u8 0, Value.int IntKind.u8 0, Value.int IntKind.i64 0, Value.int IntKind.i64 0] : Array Value) = na := hna
  have hs : na.size = 34 := by rw [← hna]; rfl
  clear h hT hna hX hvb hd
  go_enter Tryd.func10, Tryd.ntmps10
  go_wp2_with fail
  refine C0.out.mono ?_
  rintro e w1 ⟨rfl, b⟩
  go_wp2_with fail
  refine (CR.out _ b).mono ?_
  rintro e w2 ⟨rfl, k⟩
  replace b := bl b k
  clear k
  go_upto_region 6 with fail
  have hk := (Bk.nil w2).new X
  replace b := b.alloc b.size (.cells X 46)
  obtain ⟨g3, hg3⟩ : ∃ g, w2.heap.size = g := ⟨_, rfl⟩
  rw [hg3] at hk ⊢
  generalize w2.alloc (.cells X 46) = w3 at hk b ⊢
  clear hg3
  have l0 := ld_blk (hk (g3, X) (by simp)) oX
  cases vb
  · go_wp2_with fail
    go_ret
    exact ⟨rfl, b⟩
  · go_wp2_with fail
    go_ret
    exact ⟨rfl, b⟩
set_option maxRecDepth 100000 in
set_option maxHeartbeats 2000000 in
theorem parts_one (A : Option Addr) (c : Nat) (x : Nd) (w : World) (h : NS w A 1 c [x]) (hT : Tabs w) (he : rootE [x] = true) : Calls Tryd.prog 10 #[.slice A (1 : Nat) c] w fun e w' => e = .returned (.bool true) ∧ Below w.heap.size w w' := by
  have C0 := Lib.hid (sane41_any w hT)
  have cR := fun (W : World) (hb : Below w.heap.size w W) => root_yes A 1 c [x] W (h.below hb) (hT.ext hb) he
  rw [rootV_fold he (by simp), foldV_one] at cR
  have hle := h.le
  have hcap := h.cap
  have hd : x.d.length = 32 := h.dig x (by simp)
  have oX := okX _ hd
  have hE := fun W => eqN_self x ▸ eq_node x x hd hd W
  obtain ⟨g, o, rfl, hN, hg⟩ := h.at_ (by omega)
  have hr : w.rangeAt g o x.cells := by have := hN 0 (by simp); rwa [Nat.zero_mul, Nat.add_zero] at this
  have hlr : ∀ (W : World), Below w.heap.size w W → (ld46 ⟨g, o, none⟩).run Tryd.prog W = .ok (.agg x.arr) W := fun W hb => ld_range (fun j v hv => (hb.cell (p := ⟨g, o + j, none⟩) hg).trans (hr j v hv)) (Nd.len x hd)
  obtain ⟨X, hX⟩ : ∃ X, x.arr = X := ⟨_, rfl⟩
  simp only [hX] at cR oX hE hlr
  have CR := Lib.hid cR
  have HL := Lib.hid hlr
  clear h hT hX hd cR hlr he hN hr
  go_enter Tryd.func10, Tryd.ntmps10
  go_wp2_with fail
  refine C0.out.mono ?_
  rintro e w1 ⟨rfl, b⟩
  go_wp2_with fail
  refine (CR.out _ b).mono ?_
  rintro e w2 ⟨rfl, k⟩
  replace b := bl b k
  clear k
  go_upto_region 6 with fail
  have hk := (Bk.nil w2).new X
  replace b := b.alloc b.size (.cells X 46)
  obtain ⟨g3, hg3⟩ : ∃ g, w2.heap.size = g := ⟨_, rfl⟩
  rw [hg3] at hk ⊢
  generalize w2.alloc (.cells X 46) = w3 at hk b ⊢
  clear hg3
  have l0 : (ld46 ⟨g3, 0, none⟩).run Tryd.prog w3.drew = .ok (.agg X) w3.drew := ld_blk (W := w3.drew) (hk (g3, X) (by simp)) oX
  have l1 := HL.out w3.drew b.drew
  go_upto_region 7 with fail
  go_region_held3 (fun W => (ld46 ⟨g3, 0, none⟩).run Tryd.prog W = .ok (.agg X) W ∧ (ld46 ⟨g, o, none⟩).run Tryd.prog W = .ok (.agg X) W)
    (exact ⟨l0, l1⟩) (fail)
  go_wp2_with fail
  go_ret
  exact ⟨rfl, b.drew⟩
open Go.RowKit Go.Shelf
attribute [local go_sem] Oper.semAt_some
attribute [local go_sem ↓] ld46_in st46_in bs46_in
attribute [local go_sem] st_new sl_one sl_two sl_three
theorem ns_left {w : World} {g o n c : Nat} {ns : List Nd} (h : NS w (some ⟨g, o, none⟩) n c ns) {k : Nat} (h1 : 0 < k) (h2 : k ≤ n) : NS w (some ⟨g, o, none⟩) k c (ns.take k) := by
  obtain ⟨g', o', e, hN, hg⟩ := h.at_ (by omega)
  cases e
  have hl := h.len
  have hle := h.le
  exact ⟨by rw [List.length_take]; omega, by omega, h.cap, (fun e => by cases e), fun _ => ⟨g, o, rfl, hN.take k, hg⟩, fun x hx => h.dig x (List.mem_of_mem_take hx)⟩
theorem ns_right {w : World} {g o n c : Nat} {ns : List Nd} (h : NS w (some ⟨g, o, none⟩) n c ns) {k : Nat} (h2 : k < n) : NS w (some ⟨g, o + k * 34, none⟩) (n - k) (c - k) (ns.drop k) := by
  obtain ⟨g', o', e, hN, hg⟩ := h.at_ (by omega)
  cases e
  have hl := h.len
  have hle := h.le
  have hcap := h.cap
  exact ⟨by rw [List.length_drop]; omega, by omega, by omega, (fun e => by cases e), fun _ => ⟨g, _, rfl, hN.drop k, hg⟩, fun x hx => h.dig x (List.mem_of_mem_drop hx)⟩
/-- append(l, n) where l is the call's own. -/
theorem wpList_append_node {w : World} {ops : Array Oper} {rest : List Oper} {o : Oper} {a : Act} {Q : Exit → Act → World → Prop} (hgd : o.guard = none) (s x : Operand)
    (ho : o.op = .call { callee := .builtin .append, args := #[s, x], argTypes := #[44, 44] }) (B i : Nat) (v : Value) (xs : List Value) (nd : Nd) (hd : nd.d.length = 32) (g : Nat) (hs : a.eval s = v) (hx : a.eval x = .slice (some ⟨g, 0, none⟩) 1 1)
    (hown : w.ownsRow B 46 34 v i xs) (hb : Blk w g 46 nd.arr) (hi9 : i ≤ 100000) (hbase : B ≤ w.heap.size)
    (h : ∀ v' w', w'.ownsRow B 46 34 v' (i + 1) (xs ++ nd.cells) → Below B w w' → wpList Tryd.prog ops Q rest (a.put o.dst v') w') : wpList Tryd.prog ops Q (o :: rest) a w := by
  obtain ⟨i0', hi', hzr, hsize, hby⟩ := info_parts info46
  refine wpList_append_own _ hgd s x 44 ho B 46 i0' (.agg nd0.arr) 34 48 Tryd.underlying44 hi' hzr hsize hby rfl (by decide) v i xs hs hown ⟨g, 0, none⟩ 1 1 nd.cells hx (Nd.len nd hd) (fun q u hu => ?_)
    (fun u hu => (Array.all_eq_true_iff_forall_mem.1 (nd_all nd)) u (by unfold Nd.arr; simpa using hu)) (by unfold maxLen; omega) (by omega) hbase (fun v' w' h1 h2 _ => h v' w' h1 ((Below.refl B w).grown h2 hbase (fun k e => (hown.lt k e).1)))
  rw [addr_mid, Nat.zero_add, hb.cell q]
  unfold Nd.arr
  rw [List.getElem?_toArray]; exact hu
set_option maxRecDepth 100000 in
set_option maxHeartbeats 2000000 in
theorem parts_many (A : Option Addr) (n c : Nat) (ns : List Nd) (w : World) (h : NS w A n c ns) (hT : Tabs w) (hn2 : 2 ≤ n) (hn : n ≤ 60) (he : rootE ns = true) : Calls Tryd.prog 10 #[.slice A n c] w fun e w' => e = .returned (.bool true) ∧ Below w.heap.size w w' := by
  have C0 := Lib.hid (sane41_any w hT)
  have CR := Lib.hid fun (W : World) (hb : Below w.heap.size w W) => root_yes A n c ns W (h.below hb) (hT.ext hb) he
  have hle := h.le
  have hcap := h.cap
  have hl := h.len
  obtain ⟨g, o, rfl, hN, hg⟩ := h.at_ (by omega)
  obtain ⟨pe1, pe2, pv, pj, per, pc, pp⟩ := parts_facts ns he (by omega) h.dig
  have hs2 := half_spec (n := ns.length) (by omega)
  obtain ⟨k, hk⟩ : ∃ k, halfN ns.length = k := ⟨_, rfl⟩
  rw [hk] at pe1 pe2 pv pj hs2
  have d1 : ∀ x ∈ ns.take k, x.d.length = 32 := fun x hx => h.dig x (List.mem_of_mem_take hx)
  have d2 : ∀ x ∈ ns.drop k, x.d.length = 32 := fun x hx => h.dig x (List.mem_of_mem_drop hx)
  have dr : ∀ x ∈ ns.reverse, x.d.length = 32 := fun x hx => h.dig x (List.mem_reverse.1 hx)
  have l1 := rootV_len d1
  have l2 := rootV_len d2
  have lX := rootV_len h.dig
  have lr := rootV_len dr
  have oX := okX _ lX
  have o1 := okX _ l1
  have o2 := okX _ l2
  have oY := okX _ lr
  have cL := fun (W : World) (hb : Below w.heap.size w W) => root_yes _ k c (ns.take k) W (ns_left (h.below hb) hs2.1 (by omega)) (hT.ext hb) pe1
  have cRr := fun (W : World) (hb : Below w.heap.size w W) => root_yes _ (n - k) (c - k) (ns.drop k) W (ns_right (h.below hb) (k := k) (by omega)) (hT.ext hb) pe2
  have cJ := fun (W : World) (hb : Below w.heap.size w W) => join_yes (rootV (ns.take k)) (rootV (ns.drop k)) W l1 l2 pv (hT.ext hb)
  simp only [pj] at cJ
  have cY := fun (W : World) (hb : Below w.heap.size w W) (A' : Option Addr) (c' : Nat) (h' : NS W A' n c' ns.reverse) => root_yes A' n c' ns.reverse W h' (hT.ext hb) per
  have xc := (rootV ns).get32 lX
  have xp := (rootV ns).get33 lX
  have yc := (rootV ns.reverse).get32 lr
  have yp := (rootV ns.reverse).get33 lr
  rw [pc] at yc
  rw [pp] at yp
  have hE := fun W => eqN_self (rootV ns) ▸ eq_node (rootV ns) (rootV ns) lX lX W
  obtain ⟨Y, hY⟩ : ∃ X, (rootV ns.reverse).arr = X := ⟨_, rfl⟩
  rw [hY] at yc yp oY
  simp only [hY] at cY
  obtain ⟨X, hX⟩ : ∃ X, (rootV ns).arr = X := ⟨_, rfl⟩
  rw [hX] at xc xp oX
  simp only [hX] at CR cJ hE
  obtain ⟨XL, hXL⟩ : ∃ X, (rootV (ns.take k)).arr = X := ⟨_, rfl⟩
  rw [hXL] at o1
  simp only [hXL] at cL cJ
  obtain ⟨XR, hXR⟩ : ∃ X, (rootV (ns.drop k)).arr = X := ⟨_, rfl⟩
  rw [hXR] at o2
  simp only [hXR] at cRr cJ
  obtain ⟨C, hC⟩ : ∃ C, (rootV ns).c = C := ⟨_, rfl⟩
  obtain ⟨P, hP⟩ : ∃ P, (rootV ns).p = P := ⟨_, rfl⟩
  rw [hC] at xc yc
  rw [hP] at xp yp
  have CL := Lib.hid cL; have CRR := Lib.hid cRr; have CJ := Lib.hid cJ; have CY := Lib.hid cY
  have G := Lib.hid (And.intro xc (And.intro xp (And.intro yc yp)))
  have HH := Lib.hid h
  have HN := Lib.hid hN
  have hgw := hg
  have HK := Lib.hid hk
  have HT := Lib.hid hT
  have hk1 := hs2.1
  have hk2 : k < n := by omega
  have q1 : ((n : Int) == 1) = false := by simp; omega
  have q0 : ((n : Int) == 0) = false := by simp; omega
  have i0 : (0 : Int) ≤ k := by omega
  have i1 : (k : Int) ≤ (c : Int) := by omega
  have i2 : (k : Int) ≤ (n : Int) := by omega
  have i3 : (n : Int) ≤ (c : Int) := by omega
  have i4 : (c = k) = False := eq_false (by omega)
  have t1 : (n : Int) ≤ (60 : Int) := by omega
  clear cL cRr cJ cY xc xp yc yp hC hP hX hXL hXR hY h hT he pe1 pe2 pv pj per pc pp d1 d2 dr l1 l2 lX lr hs2 hN hk
  go_enter Tryd.func10, Tryd.ntmps10
  go_wp2_with fail
  refine C0.out.mono ?_
  rintro e w1 ⟨rfl, b⟩
  go_wp2_with fail
  refine (CR.out _ b).mono ?_
  rintro e w2 ⟨rfl, kb⟩
  replace b := bl b kb
  clear kb
  go_upto_region 6 with fail
  have hk := (Bk.nil w2).new X
  replace b := b.alloc b.size (.cells X 46)
  obtain ⟨g3, hg3⟩ : ∃ g, w2.heap.size = g := ⟨_, rfl⟩
  rw [hg3] at hk ⊢
  generalize w2.alloc (.cells X 46) = w3 at hk b ⊢
  clear hg3
  go_wp2_with fail
  go_loop [5] (fun x => ∃ j : Nat, 0 < j ∧ j < n ∧ x = .int .i64 j ∧ Hid (hfA j ns.length = halfN ns.length)) (fun x => n - (intOf x).toNat)
  case atStart => exact ⟨1, by omega, by omega, rfl, Lib.hid rfl⟩
  case round =>
    obtain ⟨j, hj0, hjn, rfl, hh⟩ := hrel
    by_cases hlt : 2 * j < n
    · have hlt' : (2 : Int) * j < n := by omega
      have hy := hfA_yes hj0 (n := ns.length) (by omega)
      rw [hy] at hh
      clear hy
      go_wp2_with fail
      go_round
      case rel => exact ⟨2 * j, by omega, by omega, by go_num, hh⟩
      case measure => simp [intOf]; omega
    · have hlt' : ¬ (2 : Int) * j < n := by omega
      have hno := hfA_no (k := j) (n := ns.length) (by omega)
      rw [hno, HK.out] at hh
      obtain rfl := hh.out
      clear hno hh
      go_wp2_with fail
      refine (CL.out _ b).mono ?_
      rintro e w4 ⟨rfl, kb⟩
      replace hk := hk.below kb
      replace b := bl b kb
      clear kb
      go_upto_region 14 with fail
      replace hk := hk.new XL
      replace b := b.alloc b.size (.cells XL 46)
      obtain ⟨g6, hg6⟩ : ∃ g, w4.heap.size = g := ⟨_, rfl⟩
      rw [hg6] at hk ⊢
      generalize w4.alloc (.cells XL 46) = w5 at hk b ⊢
      clear hg6
      go_wp2_with fail
      refine (CRR.out _ b).mono ?_
      rintro e w6 ⟨rfl, kb⟩
      replace hk := hk.below kb
      replace b := bl b kb
      clear kb
      go_upto_region 15 with fail
      replace hk := hk.new XR
      replace b := b.alloc b.size (.cells XR 46)
      obtain ⟨g8, hg8⟩ : ∃ g, w6.heap.size = g := ⟨_, rfl⟩
      rw [hg8] at hk ⊢
      generalize w6.alloc (.cells XR 46) = w7 at hk b ⊢
      clear hg8
      have l0 := ld_blk (hk (g6, XL) (by simp)) o1
      have l1 := ld_blk (hk (g8, XR) (by simp)) o2
      go_wp2_with fail
      refine (CJ.out _ b).mono ?_
      rintro e w8 ⟨rfl, kb⟩
      replace hk := hk.below kb
      replace b := bl b kb
      clear kb l0 l1
      go_upto_region 16 with fail
      replace hk := hk.new X
      replace b := b.alloc b.size (.cells X 46)
      obtain ⟨g10, hg10⟩ : ∃ g, w8.heap.size = g := ⟨_, rfl⟩
      rw [hg10] at hk ⊢
      generalize w8.alloc (.cells X 46) = w9 at hk b ⊢
      clear hg10
      go_wp2_with fail
      obtain ⟨B, hB⟩ : ∃ B, w9.heap.size = B := ⟨_, rfl⟩
      go_loopw [12, 13] (fun v y wr => ∃ i : Nat, i ≤ n ∧ y = .int .i64 ((n : Int) - 1 - i) ∧ wr.ownsRow B 46 34 v i ((ns.reverse.take i).flatMap Nd.cells) ∧ Below B w9 wr) (fun _ y _ => (intOf y + 1).toNat)
      case atStart => exact ⟨0, by omega, by simp, World.ownsRow_nil _ _ _ _, Below.refl _ _⟩
      case round =>
        obtain ⟨i, hi, rfl, hown, hbr⟩ := hrel
        by_cases hlt2 : i < n
        · obtain ⟨m, hm⟩ : ∃ m : Nat, n = i + m + 1 := ⟨n - 1 - i, by omega⟩
          have hm2 : (n : Int) - 1 - i = (m : Int) := by omega
          rw [hm2]
          have hml : m < ns.length := by omega
          have hcell := HN.out m hml
          have hgl : g < wr.heap.size := Nat.lt_of_lt_of_le hgw (Nat.le_trans b.size hbr.size)
          have hmd := (HH.out).dig _ (List.getElem_mem hml)
          have htk : ns.reverse.take (i + 1) = ns.reverse.take i ++ [ns[m]] := by
            rw [List.take_succ_eq_append_getElem (by rw [List.length_reverse]; omega), List.getElem_reverse]
            congr 3; omega
          obtain ⟨x, hx⟩ : ∃ x, ns[m] = x := ⟨_, rfl⟩
          rw [hx] at hcell hmd htk
          have hbw : Below w.heap.size w wr := b.trans (hbr.mono (by rw [← hB]; exact b.size))
          have l0 : (ld46 ⟨g, o + m * 34, none⟩).run Tryd.prog wr = .ok (.agg x.arr) wr := ld_range (fun q u hu => (hbw.cell (p := ⟨g, o + m * 34 + q, none⟩) hgw).trans (hcell q u hu)) (Nd.len x hmd)
          have ox := okX x hmd
          have m0 : (0 : Int) ≤ m := by omega
          have m1 : (m : Int) < n := by omega
          have hbs : B ≤ (wr.alloc (.cells x.arr 46)).heap.size := by have := hbr.size; simp; omega
          have HM := Lib.hid hm
          have hbr0 : B ≤ wr.heap.size := by have := hbr.size; omega
          clear hcell hm hm2
          go_wp2_with (at_builtin; refine wpList_append_node rfl (.tmp 95) (.tmp 100) rfl B i _ _ x hmd wr.heap.size rfl rfl (hown.alloc (.cells x.arr 46)) (Blk.new _ _ _) (by omega) hbs ?_)
          intro v2 w2 ho2 hb2
          rw [show List.flatMap Nd.cells (List.take i ns.reverse) ++ x.cells = List.flatMap Nd.cells (List.take (i + 1) ns.reverse) by rw [htk, List.flatMap_append, List.flatMap_singleton]] at ho2
          replace hb2 := (hbr.alloc hbr0 (.cells x.arr 46)).trans hb2
          clear l0 htk hx hown hbr hbs hmd ox
          go_wp2_with fail
          go_roundw
          case rel => exact ⟨i + 1, by omega, by have := HM.out; go_num, ho2, hb2⟩
          case measure => (have := HM.out; simp [intOf] <;> omega)
        · obtain rfl : i = n := by omega
          rw [List.take_of_length_le (by rw [List.length_reverse]; omega)] at hown
          obtain ⟨A2, c2, rfl, hns⟩ := own_ns hown (by rw [List.length_reverse]; exact hl) (by omega) (fun x hx => (HH.out).dig x (List.mem_reverse.1 hx))
          have hbw : Below w.heap.size w wr := b.trans (hbr.mono (by rw [← hB]; exact b.size))
          replace hk := hk.below (by rw [hB]; exact hbr)
          have HNS := Lib.hid hns
          have i9 : (i : Int) - 1 - i = -1 := by omega
          rw [i9]
          clear hown hbr hns i9
          go_wp2_with fail
          refine (CY.out _ hbw _ _ HNS.out).mono ?_
          rintro e w10 ⟨rfl, kb⟩
          replace hk := hk.below kb
          have b := bl hbw kb
          clear kb hbw HNS
          go_upto_region 22 with fail
          replace hk := hk.new Y
          replace b := b.alloc b.size (.cells Y 46)
          obtain ⟨g14, hg14⟩ : ∃ g, w10.heap.size = g := ⟨_, rfl⟩
          rw [hg14] at hk ⊢
          generalize w10.alloc (.cells Y 46) = w11 at hk b ⊢
          clear hg14
          have l0 := ld_blk (hk (g10, X) (by simp)) oX
          have l1 := ld_blk (hk (g3, X) (by simp)) oX
          have c1 : w11.cell? ⟨g3, 32, none⟩ = some (.int .i64 C) := ((hk (g3, X) (by simp)).cell 32).trans G.out.1
          have c2 : w11.cell? ⟨g3, 33, none⟩ = some (.int .i64 P) := ((hk (g3, X) (by simp)).cell 33).trans G.out.2.1
          have c3 : w11.cell? ⟨g14, 32, none⟩ = some (.int .i64 C) := ((hk (g14, Y) (by simp)).cell 32).trans G.out.2.2.1
          have c4 : w11.cell? ⟨g14, 33, none⟩ = some (.int .i64 P) := ((hk (g14, Y) (by simp)).cell 33).trans G.out.2.2.2
          go_wp2_with fail
          go_ret
          exact ⟨rfl, b⟩
/-- TreeParts, of whatever comes in. -/
theorem parts_walk (A : Option Addr) (n c : Nat) (ns : List Nd) (w : World) (h : NS w A n c ns) (hT : Tabs w) : Calls Tryd.prog 10 #[.slice A n c] w fun e w' => e = .returned (.bool true) ∧ Below w.heap.size w w' := by
  by_cases hn : n ≤ 60
  · cases he : rootE ns
    · exact parts_no A n c ns w h hT hn he
    · by_cases h2 : 2 ≤ n
      · exact parts_many A n c ns w h hT h2 hn he
      · have hl := h.len
        match ns, hl with
        | [], hl => subst hl; exact parts_nil A c w h hT
        | [x], hl => subst hl; exact parts_one A c x w h hT he
        | _ :: _ :: _, hl => simp at hl; omega
  · exact parts_big A n c ns w h hT (by omega)
end Go.Proofs.YtedokiemlkccaaaDoor
