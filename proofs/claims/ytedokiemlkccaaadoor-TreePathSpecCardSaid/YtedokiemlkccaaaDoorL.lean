/- What a row of this seat asks, out of the walk of its statement: the tables of package digest are met, the arguments are opened, and they read behind the call as they read before. -/
import Derived.Test.YtedokiemlkccaaaDoorX
import Derived.Test.YtedokiemlkccaaaDoorB
import Derived.Test.YtedokiemlkccaaaDoorRows
import Derived.ProofKit
import Derived.SizedLaws
import Derived.LaidMore
import Derived.OpenShut
import Derived.Stop.Joined
set_option linter.all false
namespace Go.Proofs.YtedokiemlkccaaaDoor
open Go.RowKit
open Go.ChangeShapes Go.WideShapes Go.ChangeAt
theorem own : ownKnob Tryd.prog.godebug = none := by kernel_rfl
theorem laidOut : laidOutB Tryd.prog = true := by kernel_rfl
theorem gStart : Tryd.prog.globalNamed "sizar/digest.start" = some 2 := by kernel_rfl
theorem gNums : Tryd.prog.globalNamed "sizar/digest.numbers" = some 3 := by kernel_rfl
theorem tStart : (Tryd.prog.globals[2]?).map (·.type) = some 127 := by kernel_rfl
theorem tNums : (Tryd.prog.globals[3]?).map (·.type) = some 144 := by kernel_rfl
/-- the two tables, as the rows list them. -/
def laidL : List (String × DataW Unit) := [("sizar/digest.start", Rows.laid_sizar_digest_start), ("sizar/digest.numbers", Rows.laid_sizar_digest_numbers)]
theorem laid_start : (Rows.laid_sizar_digest_start : DataW Unit) = .agg ((List.range 8).map fun i => .lit (.int .u32 (startS.get i))) := rfl
theorem laid_nums : (Rows.laid_sizar_digest_numbers : DataW Unit) = .agg (kList.map fun k => .lit (.int .u32 k)) := rfl
theorem u32_cells {H : Type} {enc : TypeId × Value → H} {W : World} {b : Nat} {sp : Nat → Bool} {held : Bool} {fuel n : Nat} {t : TypeId} {cs : List Value} {xs : List (DataW H)} {ps : List MemPlace}
    (ht : Tryd.prog.underlying t = some (.array n 126)) (hd : DataW.trod enc Tryd.prog W b sp held fuel t cs = some (.agg xs, ps)) (i : Nat) (hi : i < n) (k : Int) (hk : xs[i]? = some (.lit (.int .u32 k))) : cs[i]? = some (.int .u32 k) := by
  obtain ⟨ys, m, rfl, hx, hl, hn, hel⟩ := DataW.trod_array ht hd
  have c1 : Tryd.prog.cellsOf 126 = 1 := by kernel_rfl
  have he := hel i hi
  rw [c1, Nat.mul_one] at he
  simp only [Prod.mk.injEq, DataW.agg.injEq] at hx
  rw [hx.1, List.getElem?_map] at hk
  cases hy : ys[i]? with
  | none => rw [hy] at hk; cases hk
  | some y =>
    rw [hy] at hk he
    obtain ⟨k', e1, e2, _⟩ := DataW.trod_int Tryd.underlying126 he
    simp only [Option.map_some, Option.some.injEq, e2, DataW.lit.injEq, Lit.int.injEq, true_and] at hk
    subst hk
    have : ((cs.drop i).take 1)[0]? = some (.int .u32 k') := by rw [e1]; rfl
    rw [List.getElem?_take, if_pos (by decide), List.getElem?_drop] at this
    simpa using this
/-- what the rows' condition gives the walks. -/
theorem of_laid {W : World} (h : laidMetH Tryd.prog laidL W) : Tabs W := by
  rw [MakeChecks.laidMetH_plain _ _ _ (by kernel_rfl)] at h
  obtain ⟨ps, ⟨g0, t0, cs0, f0, p0, q0, hg0, ht0, hv0, hd0, ⟨g1, t1, cs1, f1, p1, q1, hg1, ht1, hv1, hd1, _, _⟩, _⟩, _, _⟩ := h
  obtain rfl := Option.some.inj (gStart.symm.trans hg0)
  obtain rfl := Option.some.inj (gNums.symm.trans hg1)
  obtain rfl := Option.some.inj (tStart.symm.trans ht0)
  obtain rfl := Option.some.inj (tNums.symm.trans ht1)
  rw [laid_start] at hd0
  rw [laid_nums] at hd1
  have h3 : ∀ i, i < 64 → W.cell? ⟨3, i, none⟩ = some (.int .u32 (Kc i)) := fun i hi => by
    rw [World.var?_cell hg1 hv1 i, ← Array.getElem?_toList]
    refine u32_cells Tryd.underlying144 hd1 i hi _ ?_
    have hl : i < kList.length := hi
    rw [List.getElem?_map, List.getElem?_eq_getElem hl]
    unfold Kc
    rw [List.getD_eq_getElem?_getD, List.getElem?_eq_getElem hl]; rfl
  refine ⟨fun i hi => ?_, h3, World.block_lt_of_cell? W ⟨3, 0, none⟩ (h3 0 (by decide))⟩
  rw [World.var?_cell hg0 hv0 i, ← Array.getElem?_toList]
  refine u32_cells Tryd.underlying127 hd0 i hi _ ?_
  rw [List.getElem?_map, List.getElem?_range hi]; rfl
/-- the door's own heap meets the condition. -/
theorem door_met (os : Os) (args : Array Value) : laidMetH Tryd.prog laidL ((World.doorLaid Tryd.prog 400 os).forCall (fun _ _ => 0) ⟨#[], args, []⟩).memory :=
  laidMetH_of_parts3 (fuel := 8) (laidMet_of_run' 8 (by kernel_rfl) (by kernel_rfl)) (by kernel_rfl) (by kernel_rfl)
theorem cells5 : Tryd.prog.cellsOf 5 = 1 := by kernel_rfl
set_option maxRecDepth 100000
theorem addr_add (b o j : Nat) : (⟨b, o, none⟩ : Addr).add j = ⟨b, o + j, none⟩ := by unfold Addr.add; split <;> simp_all
/-- bytes that come in. -/
theorem open_bytes {H : Type} {enc : TypeId × Value → H} {W : World} {sp : Nat → Bool} {held : Bool} {v : Value} {d : DataW H} {ps : List MemPlace} {r : Reach} {b0 : Nat}
    (hval : Value.okWide Tryd.prog W r b0 22 v) (hd : DataW.Trod enc Tryd.prog W 0 sp held 22 v d ps) : ∃ A n c l, v = .slice A n c ∧ BS W A n c l ∧ (n = 0 ∨ ∃ es sp, d = .slice es sp ∧ n ≤ es.length + sp.length) := by
  obtain ⟨A, n, c, rfl⟩ := okWide_slice Tryd.underlying22 hval
  obtain ⟨fuel, hf⟩ := hd
  rcases open_ints Tryd.underlying22 Tryd.underlying5 cells5 hf with ⟨h0, _⟩ | ⟨a, len, cap, zs, hcs, _, hl, hm, hz, hx, hcell, hwz⟩
  · have e : Value.slice A n c = .slice none 0 0 := by simpa [Value.cells] using h0
    cases e
    exact ⟨none, 0, 0, [], rfl, ⟨rfl, Nat.le_refl _, by omega, fun _ => rfl, fun h => absurd h (by omega)⟩, .inl rfl⟩
  · have e : Value.slice A n c = .slice (some a) len cap := by simpa [Value.cells] using hcs
    cases e
    have hlen : n ≤ zs.length := by rw [hz]; split <;> omega
    refine ⟨some a, n, c, (zs.take n).map fun x => UInt8.ofNat x.toNat, rfl, ⟨by rw [List.length_map, List.length_take]; omega, hl, hm, fun e => (by cases e), fun hn => ?_⟩, .inr ⟨_, _, (Prod.mk.inj hx).1, ?_⟩⟩
    rotate_left
    · simp only [lits, List.length_map, List.length_take, List.length_drop]; omega
    have hc0 := hcell 0 (by omega)
    have hadd0 : a.add 0 = a := rfl
    rw [hadd0] at hc0
    have hsp : a.spot = none := by
      cases hs : a.spot with
      | none => rfl
      | some x =>
        exfalso
        unfold World.cell? at hc0
        rw [hs] at hc0
        split at hc0
        · rw [if_pos (show (some x).isSome = true from rfl)] at hc0; cases hc0
        · cases hc0
    have ha : a = ⟨a.block, a.off, none⟩ := by cases a; simp only [Addr.mk.injEq, true_and]; exact hsp
    have hadd : ∀ i, a.add i = ⟨a.block, a.off + i, none⟩ := fun i => (congrArg (fun x : Addr => x.add i) ha).trans (addr_add _ _ _)
    refine ⟨a.block, a.off, congrArg some ha, ⟨fun i hi => ?_, fun _ => World.block_lt_of_cell? W a hc0⟩⟩
    rw [List.length_map, List.length_take] at hi
    have hi' : i < zs.length := by omega
    rw [← hadd, hcell i hi']
    have hw := hwz (zs.getD i 0) (by rw [List.getD_eq_getElem?_getD, List.getElem?_eq_getElem hi']; exact List.getElem_mem _)
    have hr : 0 ≤ zs.getD i 0 ∧ zs.getD i 0 < 256 := by
      have h2 : IntKind.u8.min ≤ zs.getD i 0 ∧ zs.getD i 0 ≤ IntKind.u8.max := by
        unfold Lit.wf at hw
        rw [Bool.and_eq_true, decide_eq_true_eq, decide_eq_true_eq] at hw
        exact hw
      have e1 : IntKind.u8.min = 0 := rfl
      have e2 : IntKind.u8.max = 255 := rfl
      omega
    have hg : ((zs.take n).map fun x => UInt8.ofNat x.toNat)[i]? = some (UInt8.ofNat (zs.getD i 0).toNat) := by
      rw [List.getElem?_map, List.getElem?_take, if_pos (by omega), List.getElem?_eq_getElem hi', List.getD_eq_getElem?_getD, List.getElem?_eq_getElem hi']; rfl
    have hb : bI ((zs.take n).map fun x => UInt8.ofNat x.toNat) i = zs.getD i 0 := by
      unfold bI
      rw [List.getD_eq_getElem?_getD (l := (zs.take n).map fun x => UInt8.ofNat x.toNat), hg, Option.getD_some, UInt8.toNat_ofNat']
      omega
    rw [hb]
theorem bytes_small {H : Type} {ts : List TypeId} {ds : List (DataW H)} (hsz : (DataW.weightsEach Tryd.prog ts ds).all (· ≤ reachBytes) = true) {j : Nat} {d : DataW H} {n : Nat} (ht : ts[j]? = some 22) (hd : ds[j]? = some d)
    (h : n = 0 ∨ ∃ es sp, d = .slice es sp ∧ n ≤ es.length + sp.length) : n ≤ 140737488351232 := by
  rcases h with rfl | ⟨es, sp, rfl, hn⟩
  · omega
  · have := sized_slice hsz ht hd Tryd.underlying22
    rw [show Tryd.prog.bytesOf 5 = 1 by kernel_rfl, Nat.mul_one] at this
    unfold reachBytes at this
    omega
theorem string_small {H : Type} {ts : List TypeId} {ds : List (DataW H)} (hsz : (DataW.weightsEach Tryd.prog ts ds).all (· ≤ reachBytes) = true) {j : Nat} {l : List UInt8} (ht : ts[j]? = some 9) (hd : ds[j]? = some (.lit (.string l))) : l.length ≤ 140737488351232 := by
  have := sized_string hsz ht hd
  unfold reachBytes at this
  omega
theorem trodAll_length {H : Type} {enc : TypeId × Value → H} {P : Program} {W : World} {b : Nat} {sp : Nat → Bool} {held : Bool} : ∀ {ts : List TypeId} {vs : List Value} {ds : List (DataW H)} {ps : List MemPlace},
    DataW.TrodAll enc P W b sp held ts vs ds ps → ds.length = ts.length
  | [], _, _, _, h => by obtain ⟨_, rfl, _⟩ := trodAll_nil h; rfl
  | _ :: ts, _, _, _, h => by
    obtain ⟨v, vs', d, ds', p, q, _, rfl, _, _, hr⟩ := trodAll_cons h
    rw [List.length_cons, List.length_cons, trodAll_length hr]
/-- what came in reads as it read. -/
theorem args_of_below {H : Type} {enc : TypeId × Value → H} {P : Program} (hl : laidOutB P = true) {W W' : World} (hb : Below W.heap.size W W') {sp : Nat → Bool} : ∀ {ts : List TypeId} {vs : List Value} {ds : List (DataW H)} {ps : List MemPlace},
    (∀ t ∈ ts, P.readableRec t = true ∧ t < P.types.size) → DataW.TrodAll enc P W 0 (fun _ => true) true ts vs ds ps → (∀ x ∈ ps, x.block < W.heap.size) → (∀ x ∈ ps, sp x.block = true) →
    DataW.TrodAll enc P W' 0 sp true ts vs ds ps := by
  intro ts
  induction ts with
  | nil =>
    intro vs ds ps _ h _ _
    obtain ⟨rfl, rfl, rfl⟩ := trodAll_nil h; rfl
  | cons t ts ih =>
    intro vs ds ps hts h hlt hsp
    obtain ⟨v, vs', d, ds', p, q, rfl, rfl, rfl, h1, hr⟩ := trodAll_cons h
    have ht := hts t List.mem_cons_self
    exact ⟨p, q, WideElems.Trod_stays hl ht.1 ht.2 h1 (fun x hx => hb.same (hlt x (List.mem_append_left _ hx))) (fun x hx => hsp x (List.mem_append_left _ hx)),
      ih (fun t' h' => hts t' (List.mem_cons_of_mem _ h')) hr (fun x hx => hlt x (List.mem_append_right _ hx)) (fun x hx => hsp x (List.mem_append_right _ hx)), rfl⟩
theorem all_read {P : Program} {ts : List TypeId} (h : (ts.all fun t => P.readableRec t && decide (t < P.types.size)) = true) : ∀ t ∈ ts, P.readableRec t = true ∧ t < P.types.size := fun t ht => by
  have := List.all_eq_true.1 h t ht
  simpa only [Bool.and_eq_true, decide_eq_true_eq] using this
/-- the row of a statement, out of its walk. -/
theorem row_of_walk {f : FuncId} {fn : Func} {s : ChangeSpec} {ts : List TypeId} (os : Os) (started : os.Started) (H : Type) (enc : TypeId × Value → H)
    (noInit : Tryd.prog.inits.idxOf? f = none) (hfn : Tryd.prog.funcs[f]? = some fn) (hpar : fn.params = ts.toArray) (hres : fn.resultTypes = #[4]) (hvars : s.vars = [])
    (hspec : ∀ ds : List (DataW H), ds.length = ts.length → s.fn H (ds ++ []) = { results := [.lit (.bool true)], args := ds })
    (hread : (ts.all fun t => Tryd.prog.readableRec t && decide (t < Tryd.prog.types.size)) = true)
    (args0 : Array Value) (hok : Input.okWideB Tryd.prog ((World.doorLaid Tryd.prog 400 os).forCall (fun _ _ => 0) ⟨#[], args0, []⟩) f ⟨#[], args0, []⟩ = true)
    (hpre : s.preB enc Tryd.prog fn [] false ((World.doorLaid Tryd.prog 400 os).forCall (fun _ _ => 0) ⟨#[], args0, []⟩).memory args0 8 = true)
    (hsz : s.sizedB enc Tryd.prog fn false ((World.doorLaid Tryd.prog 400 os).forCall (fun _ _ => 0) ⟨#[], args0, []⟩).memory args0 8 = true)
    (walk : ∀ (W : World) (base : Nat) (args : Array Value) (ds : List (DataW H)) (ps : List MemPlace), Tabs W → (∀ (j : Nat) t v, fn.params[j]? = some t → args[j]? = some v → Value.okWide Tryd.prog W .any base t v) →
      DataW.TrodAll enc Tryd.prog W 0 (fun _ => true) true ts args.toList ds ps → (DataW.weightsEach Tryd.prog ts ds).all (· ≤ reachBytes) = true → Calls Tryd.prog f args W fun e W' => e = .returned (.bool true) ∧ Below W.heap.size W W') :
    ReturnsInHanded {} Tryd.checked os f .any (fun w args => (s.pre enc Tryd.prog fn [] false w args ∧ laidMetH Tryd.prog laidL w) ∧ sizedMet enc Tryd.prog fn (OpenSpec.ofChange s) false w args) (s.post enc Tryd.prog fn false true false false) := by
  refine returnsInHanded_of_change_and (C := Tryd.checked) (X := fun w _ => laidMetH Tryd.prog laidL w) (fun _ _ _ hh h => h.of_heap hh) own started noInit hfn
    (ChangeSpec.witness_shaped (enc := enc) (C := Tryd.checked) (os := os) (X := fun w _ => laidMetH Tryd.prog laidL w) false (World.doorLaid Tryd.prog 400 os) args0 8 rfl (World.shaped_of_RefB (by kernel_rfl) (by kernel_rfl)) hok hpre hsz (door_met os _)) ?_
  intro W base args ds gs before hval0 hW _ hsz0 hL _
  have hW' := hW
  have hltb := hW.lt
  obtain ⟨p, q, hA0, hV, rfl, hfz, hnd⟩ := hW
  have hA : DataW.TrodAll enc Tryd.prog W 0 (fun _ => true) true fn.params.toList args.toList ds p := hA0
  rw [hvars] at hV
  obtain ⟨rfl, rfl⟩ := trodVars_none hV
  rw [hpar] at hA
  simp only [List.append_nil] at hltb
  have hds := hspec ds (trodAll_length hA)
  have hsz1 : (DataW.weightsEach Tryd.prog ts ds).all (· ≤ reachBytes) = true := by
    have h0 : (DataW.weightsEach Tryd.prog (fn.params.toList ++ s.plain.varTypes Tryd.prog) (ds ++ [])).all (· ≤ reachBytes) = true := hsz0
    rw [show s.plain.varTypes Tryd.prog = [] by simp [DataSpec.varTypes, ChangeSpec.plain, hvars], hpar, List.append_nil, List.append_nil] at h0
    exact h0
  refine (walk W base args ds p (of_laid hL) hval0 hA hsz1).mono fun e W' ⟨he, hb⟩ => ?_
  subst he
  refine ⟨_, rfl, post_of_below (pa := p) (pv := []) hW' (fun b sp hd => ?_) (fun sp hsp => ?_) (fun sp _ => ?_) rfl hb ?_⟩
  · rw [hds, hres]; exact trodAll_mk1 (shut_bool Tryd.underlying4 _)
  · rw [hds, hpar]
    exact args_of_below laidOut hb (all_read hread) hA hltb (fun x hx => hsp x (by simpa using hx))
  · rw [hds, hvars]; rfl
  · exact ok_one hres rfl (okWide_bool_mk Tryd.underlying4 _)
end Go.Proofs.YtedokiemlkccaaaDoor
