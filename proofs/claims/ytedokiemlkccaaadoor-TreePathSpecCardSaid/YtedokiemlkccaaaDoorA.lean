/- The walk of digest.state.absorb: the state is compressed with the block, and nothing else that lay in memory has changed. -/
import Derived.Test.YtedokiemlkccaaaDoorW
set_option linter.all false
namespace Go.Proofs.YtedokiemlkccaaaDoor
open Go.RowKit
def S8.get (s : S8) : Nat → Int
  | 0 => s.a | 1 => s.b | 2 => s.c | 3 => s.d | 4 => s.e | 5 => s.f | 6 => s.g | _ => s.h
theorem S8.arr_get (s : S8) (k : Nat) (hk : k < 8) : s.arr[k]? = some (.int .u32 (s.get k)) := by
  match k, hk with
  | 0, _ => rfl
  | 1, _ => rfl
  | 2, _ => rfl
  | 3, _ => rfl
  | 4, _ => rfl
  | 5, _ => rfl
  | 6, _ => rfl
  | 7, _ => rfl
/-- the state, the first k words of which have been added to. -/
def addF (s v : S8) (k i : Nat) : Int := if i < k then (s.get i + v.get i) % 4294967296 else s.get i
theorem addF_zero (s v : S8) (i : Nat) (hi : i < 8) : s.arr[i]? = some (.int .u32 (addF s v 0 i)) := by
  unfold addF; rw [if_neg (by omega)]; exact s.arr_get i hi
def S8.add (s v : S8) : S8 :=
  ⟨(s.a + v.a) % 4294967296, (s.b + v.b) % 4294967296, (s.c + v.c) % 4294967296, (s.d + v.d) % 4294967296, (s.e + v.e) % 4294967296, (s.f + v.f) % 4294967296, (s.g + v.g) % 4294967296, (s.h + v.h) % 4294967296⟩
theorem addF_all (s v : S8) (cs : Array Value) (hs : cs.size = 8) (h : ∀ i, i < 8 → cs[i]? = some (.int .u32 (addF s v 8 i))) : cs = (s.add v).arr := by
  apply Array.ext_getElem?
  intro i
  by_cases hi : i < 8
  · rw [h i hi, S8.arr_get _ i hi]
    unfold addF; rw [if_pos hi]
    match i, hi with
    | 0, _ => rfl
    | 1, _ => rfl
    | 2, _ => rfl
    | 3, _ => rfl
    | 4, _ => rfl
    | 5, _ => rfl
    | 6, _ => rfl
    | 7, _ => rfl
  · rw [Array.getElem?_eq_none (by omega), Array.getElem?_eq_none (by show 8 ≤ i; omega)]
theorem rnds_congr (s : S8) (K : Nat → Int) {f f' : Nat → Int} (h : ∀ i, i < 64 → f i = f' i) : rnds s K f 64 = rnds s K f' 64 := by
  have : ∀ n, n ≤ 64 → rnds s K f n = rnds s K f' n := by
    intro n
    induction n with
    | zero => intro _; rfl
    | succ n ih => intro hn; rw [rnds, rnds, ih (by omega), h n (by omega)]
  exact this 64 (Nat.le_refl _)
/-- the state after a block. -/
def compress (K : Nat → Int) (s : S8) (l : List UInt8) : S8 := s.add (rnds s K (Wst (fun i => numI l (4 * i) 4) 48) 64)
theorem copied {w : World} {g : Nat} {s : S8} (h : Blk w g 128 s.arr) (j : Nat) (v : Value)
    (hj : [Value.int .u32 s.a, .int .u32 s.b, .int .u32 s.c, .int .u32 s.d, .int .u32 s.e, .int .u32 s.f, .int .u32 s.g][j]? = some v) : w.cell? ((⟨g, 0, none⟩ : Addr).add j) = some v := by
  have hlt : j < 7 := by
    rcases Nat.lt_or_ge j 7 with h1 | h1
    · exact h1
    · rw [List.getElem?_eq_none (by simpa using h1)] at hj; cases hj
  have e : (⟨g, 0, none⟩ : Addr).add j = ⟨g, j, none⟩ := by unfold Addr.add; split <;> simp_all
  rw [e, h.cell j]
  match j, hlt with
  | 0, _ => exact hj
  | 1, _ => exact hj
  | 2, _ => exact hj
  | 3, _ => exact hj
  | 4, _ => exact hj
  | 5, _ => exact hj
  | 6, _ => exact hj
set_option maxRecDepth 100000 in
set_option maxHeartbeats 4000000 in
theorem absorb_any (s b o c : Nat) (l : List UInt8) (w : World) (hl : l.length = 64) (hc : 64 ≤ c) (hc' : c ≤ 9223372036854775807) (hB : BytesAt w b o l)
    (st : S8) (hS : Blk w s 128 st.arr) (K : Nat → Int) (hK : ∀ i, i < 64 → w.cell? ⟨3, i, none⟩ = some (.int .u32 (K i))) (h3 : 3 < w.heap.size) :
    Calls Tryd.prog 110 #[.pointer (some ⟨s, 0, none⟩), .slice (some ⟨b, o, none⟩) 64 c] w fun e w' => e = .returned (.tuple #[]) ∧ w.grownBy w' (some s) ∧ Blk w' s 128 (compress K st l).arr := by
  have hb := hB.lt (by omega)
  have r7 := fun x W => rotl_any x (-7) 25 rot7 (by decide) W
  have r18 := fun x W => rotl_any x (-18) 14 rot18 (by decide) W
  have r17 := fun x W => rotl_any x (-17) 15 rot17 (by decide) W
  have r19 := fun x W => rotl_any x (-19) 13 rot19 (by decide) W
  have R7 := Lib.hid r7; have R18 := Lib.hid r18; have R17 := Lib.hid r17; have R19 := Lib.hid r19
  clear r7 r18 r17 r19
  have HB := Lib.hid hB.cell
  rw [hl] at HB
  go_enter Tryd.func110, Tryd.ntmps110
  go_wp2_with fail
  generalize hW0 : w.alloc (Obj.cells _ 144) = W0
  have hz : w.alloc (.cells (Array.replicate 64 (.int .u32 0)) 144) = W0 := hW0
  clear hW0
  have hA : ArrI W0 w.heap.size .u32 64 (fun _ => 0) := by
    rw [← hz]; exact ArrI.newz w _ _ _
  have hB0 : Below w.heap.size w W0 := by rw [← hz]; exact (Below.refl _ _).alloc (Nat.le_refl _) _
  clear hz
  go_loopw [14] (fun x wr => ∃ k : Nat, k ≤ 16 ∧ x = .int .i64 k ∧ Below w.heap.size w wr ∧ ∃ f, ArrI wr w.heap.size .u32 64 f ∧ Hid (∀ i, i < k → f i = numI l (4 * i) 4)) (fun x _ => 16 - (intOf x).toNat)
  case atStart => exact ⟨0, by omega, rfl, hB0, _, hA, Lib.hid (fun i hi => by omega)⟩
  case round =>
    obtain ⟨k, hk, rfl, hB, f, hf, hinv⟩ := hrel
    by_cases hlt : k < 16
    · have cw := word_any l b (o + 4 * k) (64 - 4 * k) (c - 4 * k) (4 * k) wr (by omega) (by omega) (by omega) (fun i hi => by
        rw [Nat.add_assoc]; exact (hB.cell (p := ⟨b, o + (4 * k + i), none⟩) hb).trans (HB.out _ (by omega)))
      have CW := Lib.hid cw; clear cw
      have h1 := hf.cell k (by omega)
      have h2 := hf.free k
      go_wp2_with fail
      refine CW.out.mono ?_
      rintro e w' ⟨rfl, rfl⟩
      go_wp2_with fail
      go_roundw
      case rel =>
        refine ⟨k + 1, by omega, by go_num, hB.setCell (p := ⟨w.heap.size, k, none⟩) (Nat.le_refl _) _, _, hf.set k _, Lib.hid fun i hi => ?_⟩
        by_cases e : i = k
        · subst e; exact upd_same _ _ _
        · rw [upd_other _ _ e]; exact hinv.out i (by omega)
      case measure => simp [intOf]; omega
    · obtain rfl : k = 16 := by omega
      rw [show ((16 : Nat) : Int) = 16 from rfl]
      go_wp2_with fail
      clear hA
      have hm := hinv.out
      obtain ⟨m, hmm⟩ : ∃ m : Nat → Int, m = fun i => numI l (4 * i) 4 := ⟨_, rfl⟩
      have hm : ∀ i, i < 16 → f i = Wst m 0 i := fun i hi => (hm i hi).trans (by rw [hmm]; rfl)
      have hmr : ∀ i, 0 ≤ m i ∧ m i < 4294967296 := fun i => by rw [hmm]; exact ⟨numI_lo l (4 * i) 4, numI_hi l (4 * i) 4⟩
      have HM := Lib.hid hmm; clear hmm hinv
      have HR := Lib.hid hmr; clear hmr
      go_loopw [6] (fun x wq => ∃ k : Nat, k ≤ 48 ∧ x = .int .i64 ((k : Int) + 16) ∧ Below w.heap.size w wq ∧ ∃ f, ArrI wq w.heap.size .u32 64 f ∧ Hid (∀ i, i < 16 + k → f i = Wst m k i)) (fun x _ => 64 - (intOf x).toNat)
      case atStart => exact ⟨0, by omega, rfl, hB, f, hf, Lib.hid fun i hi => hm i (by omega)⟩
      case round =>
        obtain ⟨k, hk, rfl, hB, f, hf, hinv⟩ := hrel
        by_cases hlt : k < 48
        · have h0 : (k : Int) + 16 < 64 := by omega
          have g15 := hf.cell (k + 1) (by omega)
          have g2 := hf.cell (k + 14) (by omega)
          have g16 := hf.cell k (by omega)
          have g7 := hf.cell (k + 9) (by omega)
          have g0 := hf.cell (k + 16) (by omega)
          have f0 := hf.free (k + 16)
          have l15 : (k : Int) + 1 < 64 := by omega
          have l2 : (k : Int) + 14 < 64 := by omega
          have l16 : (k : Int) < 64 := by omega
          have l7 : (k : Int) + 9 < 64 := by omega
          have p15 : 0 ≤ (k : Int) + 1 := by omega
          have p2 : 0 ≤ (k : Int) + 14 := by omega
          have p16 : 0 ≤ (k : Int) := by omega
          have p7 : 0 ≤ (k : Int) + 9 := by omega
          have p0 : 0 ≤ (k : Int) + 16 := by omega
          have e15 : IntKind.i64.wrap ((k : Int) + 16 - 15) = (k : Int) + 1 := by rw [IntWalk.i64_in _ (by omega)]; omega
          have e2 : IntKind.i64.wrap ((k : Int) + 16 - 2) = (k : Int) + 14 := by rw [IntWalk.i64_in _ (by omega)]; omega
          have e16 : IntKind.i64.wrap ((k : Int) + 16 - 16) = (k : Int) := by rw [IntWalk.i64_in _ (by omega)]; omega
          have e7 : IntKind.i64.wrap ((k : Int) + 16 - 7) = (k : Int) + 9 := by rw [IntWalk.i64_in _ (by omega)]; omega
          have e16' : IntKind.i64.wrap (k : Int) = (k : Int) := by rw [IntWalk.i64_in _ (by omega)]
          have t15 : ((k : Int) + 1).toNat = k + 1 := by omega
          have t2 : ((k : Int) + 14).toNat = k + 14 := by omega
          have t7 : ((k : Int) + 9).toNat = k + 9 := by omega
          have t0 : ((k : Int) + 16).toNat = k + 16 := by omega
          go_wp2_with fail
          go_quiet (fail)
          go_wp2_with fail
          refine wp_region_still_tail 29 (by kernel_rfl) (by kernel_rfl) ?_
          simp only [List.take_succ_cons, List.take_zero, List.drop_succ_cons, List.drop_zero]
          generalize hwq : ({ (wr.drewN nq) with drawn := (wr.drewN nq).drawn + 1 } : World) = wq
          have hwq' : wr.drewN (nq + 1) = wq := hwq
          clear hwq
          have hfq := hf.drewN (nq + 1)
          have hBq := below_drewN hB (nq + 1)
          rw [hwq'] at hfq hBq
          clear hwq' g15 g2 g16 g7 g0 f0
          have g16 := hfq.cell k (by omega)
          have g7 := hfq.cell (k + 9) (by omega)
          have g0 := hfq.cell (k + 16) (by omega)
          have f0 := hfq.free (k + 16)
          iterate 6 still_step
          still_call (quietly (R7.out _ _))
          iterate 1 still_step
          still_call (quietly (R18.out _ _))
          iterate 11 still_step
          still_call (quietly (R17.out _ _))
          iterate 1 still_step
          still_call (quietly (R19.out _ _))
          iterate 6 still_step
          refine wpStill_nil ?_
          go_wp2_with fail
          go_roundw
          case rel =>
            refine ⟨k + 1, by omega, by go_num, hBq.setCell (p := ⟨w.heap.size, k + 16, none⟩) (Nat.le_refl _) _, _, hfq.set (k + 16) _, Lib.hid fun i hi => ?_⟩
            exact sched_step m f k hinv.out i (by omega)
          case measure => simp [intOf]; omega
        · obtain rfl : k = 48 := by omega
          rw [show ((48 : Nat) : Int) + 16 = 64 from rfl]
          have hs := hS.lt
          obtain ⟨va, vb, vc, vd, ve, vf, vg, vh⟩ := st
          have s0 := (hB.cell (p := ⟨s, 0, none⟩) hs).trans (hS.cell 0)
          have s1 := (hB.cell (p := ⟨s, 1, none⟩) hs).trans (hS.cell 1)
          have s2 := (hB.cell (p := ⟨s, 2, none⟩) hs).trans (hS.cell 2)
          have s3 := (hB.cell (p := ⟨s, 3, none⟩) hs).trans (hS.cell 3)
          have s4 := (hB.cell (p := ⟨s, 4, none⟩) hs).trans (hS.cell 4)
          have s5 := (hB.cell (p := ⟨s, 5, none⟩) hs).trans (hS.cell 5)
          have s6 := (hB.cell (p := ⟨s, 6, none⟩) hs).trans (hS.cell 6)
          have s7 := (hB.cell (p := ⟨s, 7, none⟩) hs).trans (hS.cell 7)
          simp only [S8.arr, List.getElem?_toArray, List.getElem?_cons_zero, List.getElem?_cons_succ] at s0 s1 s2 s3 s4 s5 s6 s7
          go_wp2_with fail
          have hV : Blk (wr.alloc (.cells (S8.arr ⟨va, vb, vc, vd, ve, vf, vg, vh⟩) 128)) wr.heap.size 128 (S8.arr ⟨va, vb, vc, vd, ve, vf, vg, vh⟩) := Blk.new _ _ _
          have hfV := hf.alloc (.cells (S8.arr ⟨va, vb, vc, vd, ve, vf, vg, vh⟩) 128)
          have hBV := hB.alloc hB.size (.cells (S8.arr ⟨va, vb, vc, vd, ve, vf, vg, vh⟩) 128)
          have hgt := hf.lt
          have hKV : Hid (∀ i, i < 64 → f i = Wst m 48 i) := Lib.hid fun i hi => hinv.out i (by omega)
          have hK3 := Lib.hid hK
          clear s0 s1 s2 s3 s4 s5 s6 s7 hinv hK
          obtain ⟨g, hg⟩ : ∃ g, wr.heap.size = g := ⟨_, rfl⟩
          rw [hg] at hV hgt ⊢
          generalize hW1 : wr.alloc (Obj.cells _ 128) = W1
          have hW1' : wr.alloc (.cells (S8.arr ⟨va, vb, vc, vd, ve, vf, vg, vh⟩) 128) = W1 := hW1
          rw [hW1'] at hV hfV hBV
          clear hW1 hW1'
          obtain ⟨st, hst⟩ : ∃ st : S8, ⟨va, vb, vc, vd, ve, vf, vg, vh⟩ = st := ⟨_, rfl⟩
          rw [hst] at hV
          have HST := Lib.hid hst; clear hst
          go_loopw [69] (fun x wq => ∃ k : Nat, k ≤ 64 ∧ x = .int .i64 k ∧ Below w.heap.size w wq ∧ Blk wq g 128 (S8.arr (rnds st K f k)) ∧ ArrI wq w.heap.size .u32 64 f) (fun x _ => 64 - (intOf x).toNat)
          case atStart => exact ⟨0, by omega, rfl, hBV, hV, hfV⟩
          case round =>
            obtain ⟨k, hk, rfl, hB, hV, hf⟩ := hrel
            by_cases hlt : k < 64
            · have hk3 := (hB.cell (p := ⟨3, k, none⟩) h3).trans (hK3.out k hlt)
              have hwk := hf.cell k hlt
              obtain ⟨ka, hka⟩ : ∃ x, K k = x := ⟨_, rfl⟩
              obtain ⟨wa, hwa⟩ : ∃ x, f k = x := ⟨_, rfl⟩
              obtain ⟨sk, hsk⟩ : ∃ x, rnds st K f k = x := ⟨_, rfl⟩
              rw [hka] at hk3
              rw [hwa] at hwk
              rw [hsk] at hV
              have hnext : rnds st K f (k + 1) = rnd sk ka wa := by rw [rnds, hsk, hka, hwa]
              have HN := Lib.hid hnext
              clear hnext hsk hka hwa
              have v0 := hV.cell 0
              have v1 := hV.cell 1
              have v2 := hV.cell 2
              have v3 := hV.cell 3
              have v4 := hV.cell 4
              have v5 := hV.cell 5
              have v6 := hV.cell 6
              have v7 := hV.cell 7
              simp only [S8.arr, List.getElem?_toArray, List.getElem?_cons_zero, List.getElem?_cons_succ] at v0 v1 v2 v3 v4 v5 v6 v7
              go_upto_region 15 with fail
              go_cut [11] (fun p wc => p = .int .u32 (rndP sk ka wa) ∧ ∃ n, wc = wr.drewN n)
              case first =>
                go_quiet ((go_at_call 126; exact Calls.quiet_of_same (quietly (rotated6 _ _))))
                go_wp2_with fail
                go_meet
                exact ⟨congrArg (Value.int IntKind.u32) (by unfold rndP; omega), _, rfl⟩
              case rest =>
                obtain ⟨rfl, n1, hw1⟩ := hcut
                have hV1 := hV.drewN n1
                have hf1 := hf.drewN n1
                have hB1 := below_drewN hB n1
                rw [← hw1] at hV1 hf1 hB1
                clear hw1 v0 v1 v2 v3 v4 v5 v6 v7 hk3 hwk hV hf hB
                obtain ⟨p, hp⟩ : ∃ p, rndP sk ka wa = p := ⟨_, rfl⟩
                rw [hp]
                have HP := Lib.hid hp; clear hp
                have v0 := hV1.cell 0
                have v1 := hV1.cell 1
                have v2 := hV1.cell 2
                simp only [S8.arr, List.getElem?_toArray, List.getElem?_cons_zero, List.getElem?_cons_succ] at v0 v1 v2
                go_upto_region 16 with fail
                go_cut [12] (fun q wd => q = .int .u32 (rndQ sk) ∧ ∃ n, wd = wc.drewN n)
                case first =>
                  go_quiet ((go_at_call 126; exact Calls.quiet_of_same (quietly (rotated2 _ _))))
                  go_wp2_with fail
                  go_meet
                  exact ⟨congrArg (Value.int IntKind.u32) (by unfold rndQ; omega), _, rfl⟩
                case rest =>
                  obtain ⟨rfl, n2, hw2⟩ := hcut
                  have hV2 := hV1.drewN n2
                  have hf2 := hf1.drewN n2
                  have hB2 := below_drewN hB1 n2
                  rw [← hw2] at hV2 hf2 hB2
                  clear hw2 v0 v1 v2 hV1 hf1 hB1
                  obtain ⟨q, hq⟩ : ∃ q, rndQ sk = q := ⟨_, rfl⟩
                  rw [hq]
                  have HQ := Lib.hid hq; clear hq
                  go_upto_region 17 with fail
                  refine wp_region_still_tail 2 (by kernel_rfl) (by kernel_rfl) ?_
                  simp only [List.take_succ_cons, List.take_zero, List.drop_succ_cons, List.drop_zero]
                  generalize hwq : ({ wc with drawn := wc.drawn + 1 } : World) = wq
                  have hwq' : wc.drewN 1 = wq := hwq
                  clear hwq
                  have hV3 := hV2.drewN 1
                  have hf3 := hf2.drewN 1
                  have hB3 := below_drewN hB2 1
                  rw [hwq'] at hV3 hf3 hB3
                  clear hwq'
                  iterate 2 still_step
                  refine wpStill_nil ?_
                  refine wpList_copy_splice rfl (.tmp 116) (.tmp 117) 148 148 rfl 126 Tryd.underlying148 (by kernel_rfl) (some ⟨g, 1, none⟩) (some ⟨g, 0, none⟩) 7 7 7 8 rfl rfl g 1
                    [.int .u32 sk.a, .int .u32 sk.b, .int .u32 sk.c, .int .u32 sk.d, .int .u32 sk.e, .int .u32 sk.f, .int .u32 sk.g, .int .u32 sk.h] 128 hV3
                    [.int .u32 sk.a, .int .u32 sk.b, .int .u32 sk.c, .int .u32 sk.d, .int .u32 sk.e, .int .u32 sk.f, .int .u32 sk.g] rfl (fun _ => ⟨rfl, _, rfl, ?hcells⟩) (Nat.le_refl 8) ?hone g wq (Below.refl _ _) (Nat.le_refl _) ?_
                  case hcells => exact fun j v hj => copied hV3 j v hj
                  case hone => intro v hv; simp at hv; rcases hv with rfl | rfl | rfl | rfl | rfl | rfl | rfl <;> rfl
                  intro w4 hH hB4
                  have hV4 : Blk w4 g 128 #[.int .u32 sk.a, .int .u32 sk.a, .int .u32 sk.b, .int .u32 sk.c, .int .u32 sk.d, .int .u32 sk.e, .int .u32 sk.f, .int .u32 sk.g] := hH.out
                  have hf4 := hf3.below hB4 hgt
                  have hB4' := hB3.trans (hB4.mono (Nat.le_of_lt hgt))
                  clear hH hB4 hV3 hf3 hB3 hV2 hf2 hB2
                  have v4 := hV4.cell 4
                  have v0 := hV4.cell 0
                  have fr4 := hV4.frozen 4
                  have fr0 := hV4.frozen 0
                  simp only [List.getElem?_toArray, List.getElem?_cons_zero, List.getElem?_cons_succ] at v0 v4
                  go_wp2_with fail
                  go_roundw
                  case rel =>
                    have hV5 := (hV4.set_ 4 (.int .u32 ((sk.d + p) % 4294967296))).set_ 0 (.int .u32 ((p + q) % 4294967296))
                    refine ⟨k + 1, by omega, by go_num, (hB4'.setCell (p := ⟨g, 4, none⟩) (Nat.le_of_lt hgt) _).setCell (p := ⟨g, 0, none⟩) (Nat.le_of_lt hgt) _, ?_, (hf4.far (p := ⟨g, 4, none⟩) (Nat.ne_of_gt hgt) _).far (p := ⟨g, 0, none⟩) (Nat.ne_of_gt hgt) _⟩
                    rw [HN.out, rnd, HP.out, HQ.out]
                    exact hV5
                  case measure => simp [intOf]; omega
            · obtain rfl : k = 64 := by omega
              rw [show ((64 : Nat) : Int) = 64 from rfl]
              obtain ⟨vt, hvt⟩ : ∃ vt, rnds st K f 64 = vt := ⟨_, rfl⟩
              rw [hvt] at hV
              have HVT := Lib.hid hvt; clear hvt
              have hSs := hS.below hB hs
              rw [HST.out] at hSs
              have hsg : s ≠ g := by omega
              go_wp2_with fail
              go_loopw [129] (fun x wq => ∃ k : Nat, k ≤ 8 ∧ x = .int .i64 k ∧ w.grownBy wq (some s) ∧ Blk wq g 128 (S8.arr vt) ∧ ∃ cs, Blk wq s 128 cs ∧ cs.size = 8 ∧ Hid (∀ i, i < 8 → cs[i]? = some (.int .u32 (addF st vt k i)))) (fun x _ => 8 - (intOf x).toNat)
              case atStart => exact ⟨0, by omega, rfl, ⟨hB.os, hB.tape, hB.output, hB.size, fun k hk _ => hB.block k hk⟩, hV, _, hSs, rfl, Lib.hid (addF_zero st vt)⟩
              case round =>
                obtain ⟨k, hk, rfl, hG, hV, cs, hS2, hcs, hF⟩ := hrel
                by_cases hlt : k < 8
                · have hk0 : 0 ≤ (k : Int) := by omega
                  have hk8 : (k : Int) < 8 := by omega
                  have e1 : addF st vt k k = st.get k := by unfold addF; rw [if_neg (by omega)]
                  have c1 := (hS2.cell k).trans (hF.out k hlt)
                  rw [e1] at c1
                  have c2 := (hV.cell k).trans (S8.arr_get vt k hlt)
                  obtain ⟨x, hx⟩ : ∃ x, st.get k = x := ⟨_, rfl⟩
                  obtain ⟨y, hy⟩ : ∃ x, vt.get k = x := ⟨_, rfl⟩
                  rw [hx] at c1
                  rw [hy] at c2
                  have HX := Lib.hid hx; have HY := Lib.hid hy
                  have fr := hS2.frozen k
                  clear hx hy e1
                  go_upto_region 24 with fail
                  refine wp_region_still_tail 11 (by kernel_rfl) (by kernel_rfl) ?_
                  simp only [List.take_succ_cons, List.take_zero, List.drop_succ_cons, List.drop_zero]
                  generalize hwq : ({ wr with drawn := wr.drawn + 1 } : World) = wq
                  have hwq' : wr.drewN 1 = wq := hwq
                  clear hwq
                  have hV1 := hV.drewN 1
                  have hS3 := hS2.drewN 1
                  have hG1 : w.grownBy (wr.drewN 1) (some s) := ⟨hG.os, hG.tape, hG.output, hG.size, hG.block⟩
                  have d1 : (wr.drewN 1).cell? ⟨s, k, none⟩ = some (.int .u32 x) := c1
                  have d2 : (wr.drewN 1).cell? ⟨g, k, none⟩ = some (.int .u32 y) := c2
                  have dr : (wr.drewN 1).frozen? ⟨s, k, none⟩ = false := fr
                  rw [hwq'] at hV1 hS3 hG1 d1 d2 dr
                  clear hwq' c1 c2 fr hV hS2 hG
                  iterate 11 still_step
                  refine wpStill_nil ?_
                  go_wp2_with fail
                  go_roundw
                  case rel =>
                    refine ⟨k + 1, by omega, by go_num, ⟨hG1.os, hG1.tape, hG1.output, by rw [World.size_setCell]; exact hG1.size, fun j hj hne => ?_⟩, hV1.far (p := ⟨s, k, none⟩) (Ne.symm hsg) _, _, hS3.set_ k _, by simpa using hcs, Lib.hid fun i hi => ?_⟩
                    · rw [Below.heap_setCell _ _ _ _ (by intro e; exact hne (by rw [e]))]; exact hG1.block j hj hne
                    · rw [Array.getElem?_setIfInBounds]
                      by_cases e : k = i
                      · subst e
                        rw [if_pos rfl, if_pos (by omega)]
                        unfold addF; rw [if_pos (by omega), HX.out, HY.out]
                      · rw [if_neg e, hF.out i hi]
                        unfold addF
                        by_cases h' : i < k
                        · rw [if_pos h', if_pos (by omega)]
                        · rw [if_neg h', if_neg (by omega)]
                  case measure => simp [intOf]; omega
                · obtain rfl : k = 8 := by omega
                  rw [show ((8 : Nat) : Int) = 8 from rfl]
                  go_wp2_with fail
                  have hcs2 := addF_all st vt cs hcs hF.out
                  rw [hcs2] at hS2
                  go_end0
                  rw [← HVT.out, rnds_congr st K hKV.out] at hS2
                  refine ⟨rfl, hG, ?_⟩
                  rw [HST.out]
                  unfold compress
                  rw [← HM.out]
                  exact hS2
end Go.Proofs.YtedokiemlkccaaaDoor
