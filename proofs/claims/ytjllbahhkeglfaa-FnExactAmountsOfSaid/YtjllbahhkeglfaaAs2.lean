/- The program's AmountsOf and SumsOf return what the reference's return, for all arguments (part 2 of its texts). No conditions. -/
import Derived.Test.YtjllbahhkeglfaaProg
import Derived.Lib.Hide
import Derived.Shelf.Sort.Plain
import Derived.Shelf.Slices.CompactI
import Derived.Ground.NamesProg
import Derived.Ground.Names2Prog
import Derived.Sort.OwnSortedInts
import Derived.Sort.Grow
import Derived.Lib.OwnBridge
import Derived.Deep.RegionLaw
import Derived.Lib.LazyBuf
import Derived.Shelf.Abstract
import Derived.Laws.CopyOwn
import Derived.WideKeyPair
import Derived.Maps.OwnSet
import Derived.Maps.Views
import Derived.Below
import Derived.Deep.Draws
import Derived.Deep.AppendLies
import Derived.Maps.AppendAt
import Derived.OwnWalk
import Derived.Laws.BytesArg
import Derived.Laws.MakeOwn
import Derived.Laws.OwnMore
import Derived.Deep.OwnRows
import Derived.Tactics
import Derived.Lib.ConvBytes
import Derived.Laws.Slices
import Derived.WalkKit
import Derived.KernelRfl
import Derived.RowKit3
import Derived.Deep.LoopGhost
import Derived.Deep.QuietTactic
import Derived.BigQuiet
import Derived.WideLaws
import Derived.Deep.DeepCutAuto
import Derived.Deep.CutBlock
import Derived.Deep.RegionHeld3
import Derived.Laws.Rows
import Derived.Lib.AppendStr
import Derived.ArgAppend
import Derived.Laws.IdiomCopy
import Derived.OrdersHeld
import Derived.Laws.BitsLemmas
import Derived.RowKit
import Derived.OpenShut
import Derived.ShutString
import Derived.ChangeOld
import Derived.SizedLaws
import Derived.Lib.SmallJoins
import Derived.Test.YtjllbahhkeglfaaWWords
import Derived.Test.YtjllbahhkeglfaaWLast
import Derived.Test.YtjllbahhkeglfaaWTab
import Derived.Test.YtjllbahhkeglfaaWQPut
import Derived.Test.YtjllbahhkeglfaaWApart
import Derived.Test.YtjllbahhkeglfaaWArr
import Derived.Test.YtjllbahhkeglfaaWZeros
import Derived.Test.YtjllbahhkeglfaaWFoot
import Derived.Test.YtjllbahhkeglfaaWKept
import Derived.Test.YtjllbahhkeglfaaWShare
import Derived.Test.YtjllbahhkeglfaaWN
import Derived.Test.YtjllbahhkeglfaaWFootNe
import Derived.Test.YtjllbahhkeglfaaWRepsOne
import Derived.Test.YtjllbahhkeglfaaWInv
import Derived.Test.YtjllbahhkeglfaaWInvWords
import Derived.Test.YtjllbahhkeglfaaWGuard
import Derived.Test.YtjllbahhkeglfaaWNEv
import Derived.Test.YtjllbahhkeglfaaWMore
import Derived.Test.YtjllbahhkeglfaaAs1
namespace Go.Proofs.Ytjllbahhkeglfaa.P
open Go.RowKit Go.Proofs.YtjllbahhkeglfaaW.PrintWords Go.Proofs.YtjllbahhkeglfaaW.PrintLast Go.Proofs.YtjllbahhkeglfaaW.PrintMore
attribute [local go_sem] max2_int min2_int max_two min_two max_three min_three max_four min_four
set_option linter.unusedVariables false
set_option linter.unusedSimpArgs false

/-! ### spec_l1All: function 156 -/
def spec_l1All.l0 : Nat → Int → Int → List Int → Int → Int → Option (Bool)
 | 0, _, _, _, _, _ => none
 | k + 1, x1, x2, x9, x10, x11 => if x11 < x10 then (if 0 ≤ x11 then (if x11 < (x9.length : Int) then ((spec_l1In.f (rd x9 x11) x1 x2).bind fun t102 => (if t102 = true then (spec_l1All.l0 k x1 x2 x9 x10 (wrap64 (x11 + 1))) else (some false))) else (none)) else (none)) else (some true)
def spec_l1All.f (k : Nat) (l0 : List Int) (a1 : Int) (a2 : Int) : Option (Bool) := spec_l1All.l0 k a1 a2 l0 (l0.length : Int) 0
theorem spec_l1All.mono_l : ∀ k, (∀ y0 y1 y2 y3 y4, LeO (spec_l1All.l0 k y0 y1 y2 y3 y4) (spec_l1All.l0 (k + 1) y0 y1 y2 y3 y4))
 | 0 => fun _ _ _ _ _ r h => by simp [spec_l1All.l0] at h
 | k + 1 => by
   have ih0 := spec_l1All.mono_l k
   · intro y0 y1 y2 y3 y4
     unfold spec_l1All.l0
     repeat' first
     | (with_reducible exact ih0 _ _ _ _ _)
     | (with_reducible exact LeO.refl _)
     | (with_reducible exact LeO.none _)
     | (with_reducible refine LeO.ite ?_ ?_)
     | (with_reducible refine LeO.bind ?_ (fun _ => ?_))
     | exact ih0 _ _ _ _ _
     | exact LeO.none _
     | refine LeO.ite ?_ ?_
     | refine LeO.bind ?_ (fun _ => ?_)
theorem spec_l1All.mono : ∀ a0 a1 a2 k, LeO (spec_l1All.f k a0 a1 a2) (spec_l1All.f (k + 1) a0 a1 a2) := by
 intro a0 a1 a2 k
 have ih0 := spec_l1All.mono_l k
 unfold spec_l1All.f
 repeat' first
  | (with_reducible exact ih0 _ _ _ _ _)
  | (with_reducible exact LeO.refl _)
  | (with_reducible exact LeO.none _)
  | (with_reducible refine LeO.ite ?_ ?_)
  | (with_reducible refine LeO.bind ?_ (fun _ => ?_))
  | exact ih0 _ _ _ _ _
  | exact LeO.none _
  | refine LeO.ite ?_ ?_
  | refine LeO.bind ?_ (fun _ => ?_)
set_option maxHeartbeats 8000000 in
set_option maxRecDepth 100000 in
theorem spec_l1All.calls (k : Nat) (A0 : Option Addr) (c0 : Nat) (l0 : List Int) (a1 : Int) (a2 : Int) (r : Bool) (w : World) (hr0 : Kd.C (Kd.int .i64) w A0 l0.length l0) (hc0 : l0.length ≤ c0) (h : spec_l1All.f k l0 a1 a2 = some r) :
 Calls Try.prog 156 #[.slice A0 l0.length c0, .int .i64 a1, .int .i64 a2] w fun e w' => e = .returned (.bool r) ∧ Drawn0 w w' := by
 have HR0 := Aside0.mk hr0
 have HC0 := Aside0.mk hc0
 clear hr0 hc0
 have H : (spec_l1All.l0 k a1 a2 l0 (l0.length : Int) 0) = some r := h
 clear h
 have H' := Aside0.mk H
 clear H
 go_enter Try.func156, Try.ntmps156
 go_wp2
 go_loopg [11] k (fun kq v11 w' => ∃ (x11_1 : Int), v11 = .int .i64 x11_1 ∧ Aside0 (spec_l1All.l0 kq a1 a2 l0 (l0.length : Int) x11_1 = some r) ∧ Aside0 (kq ≤ k) ∧ Drawn0 w w')
 case atStart => exact ⟨(0), (by first | rfl | (simp; done) | (simp [*]; done)), H', ⟨Nat.le_refl _⟩, by repeat (first | exact Drawn0.refl _ | apply Drawn0.step)⟩
 case round =>
  clear H'
  try clear c1
  try clear p2
  obtain ⟨x11_1, rfl, HA, HK1, ⟨m1, rfl⟩⟩ := hrel
  cases gk with
  | zero => exact absurd HA.out (by simp [spec_l1All.l0])
  | succ k1 =>
    have H := HA.out
    clear HA
    simp only [spec_l1All.l0] at H
    by_cases c4 : x11_1 < (l0.length : Int)
    · rw [if_pos c4] at H
      have c4b0 : decide (x11_1 < (l0.length : Int)) = true := decide_eq_true c4
      clear c4
      by_cases c5 : 0 ≤ x11_1
      · rw [if_pos c5] at H
        have c5b0 : decide (0 ≤ x11_1) = true := decide_eq_true c5
        clear c5
        by_cases c6 : x11_1 < (l0.length : Int)
        · rw [if_pos c6] at H
          have c6b0 : decide (x11_1 < (l0.length : Int)) = true := decide_eq_true c6
          clear c6
          replace H := Option.bind_eq_some_iff.mp H
          obtain ⟨t102, A70, H⟩ := H
          replace H : (if t102 = true then (spec_l1All.l0 k1 a1 a2 l0 (l0.length : Int) (wrap64 (x11_1 + 1))) else (some false)) = some r := H
          have A7 := Aside0.mk A70
          clear A70
          by_cases c8 : t102 = true
          · subst c8
            have H1 : (spec_l1All.l0 k1 a1 a2 l0 (l0.length : Int) (wrap64 (x11_1 + 1))) = some r := by rw [if_pos rfl] at H; exact H
            clear H
            have H := H1
            clear H1
            have H' := Aside0.mk H
            clear H
            have p101 : 0 ≤ (x11_1 : Int) := of_decide_eq_true (by first | (with_reducible assumption) | assumption)
            have q101 : x11_1 < (l0.length : Int) := of_decide_eq_true (by first | (with_reducible assumption) | assumption)
            obtain ⟨ad101, e101, hx101_0⟩ := Kd.at_int HR0.out x11_1 p101 q101
            cases e101
            replace p101 := eq_true p101
            replace q101 := eq_true q101
            go_wp2_with (first | ((with_reducible refine gate_callee (f := 142) rfl ?_); refine goesL_ (some 18) rfl rfl Try.func142 (by kernel_rfl) rfl #[.int .i64 (rd l0 x11_1), .int .i64 a1, .int .i64 a2] rfl (by (try simp only [List.map_toArray, List.map_cons, List.map_nil]); first | done | rfl | (simp only [List.length_drop, List.length_take]; rfl)) ?_; (with_reducible refine (spec_l1In.calls (rd l0 x11_1) a1 a2 true _ A7.out).mono ?_); rintro e w' ⟨rfl, ⟨nd, rfl⟩⟩; refine ⟨_, rfl, ?_⟩))
            go_roundg k1
            case measure => have := HK1.out; omega
            case rel => exact ⟨(wrap64 (x11_1 + 1)), (by first | rfl | (simp; done) | (simp [*]; done)), H', ⟨by have := HK1.out; omega⟩, by repeat (first | exact Drawn0.refl _ | apply Drawn0.step)⟩
          · replace c8 := Bool.eq_false_iff.mpr c8
            subst c8
            have H1 : (some false) = some r := by rw [if_neg (show ¬ (false = true) by decide)] at H; exact H
            clear H
            have H := H1
            clear H1
            obtain rfl := Option.some.inj H
            have p101 : 0 ≤ (x11_1 : Int) := of_decide_eq_true (by first | (with_reducible assumption) | assumption)
            have q101 : x11_1 < (l0.length : Int) := of_decide_eq_true (by first | (with_reducible assumption) | assumption)
            obtain ⟨ad101, e101, hx101_0⟩ := Kd.at_int HR0.out x11_1 p101 q101
            cases e101
            replace p101 := eq_true p101
            replace q101 := eq_true q101
            go_wp2_with (first | ((with_reducible refine gate_callee (f := 142) rfl ?_); refine goesL_ (some 18) rfl rfl Try.func142 (by kernel_rfl) rfl #[.int .i64 (rd l0 x11_1), .int .i64 a1, .int .i64 a2] rfl (by (try simp only [List.map_toArray, List.map_cons, List.map_nil]); first | done | rfl | (simp only [List.length_drop, List.length_take]; rfl)) ?_; (with_reducible refine (spec_l1In.calls (rd l0 x11_1) a1 a2 false _ A7.out).mono ?_); rintro e w' ⟨rfl, ⟨nd, rfl⟩⟩; refine ⟨_, rfl, ?_⟩))
            go_ret
            exact ⟨by first | rfl | (simp; done) | (simp [*]; done), by repeat (first | exact Drawn0.refl _ | apply Drawn0.step)⟩
        · rw [if_neg c6] at H
          exact absurd H (by simp)
      · rw [if_neg c5] at H
        exact absurd H (by simp)
    · rw [if_neg c4] at H
      have c4b0 : decide (x11_1 < (l0.length : Int)) = false := decide_eq_false c4
      clear c4
      obtain rfl := Option.some.inj H
      go_wp2
      go_ret
      exact ⟨by first | rfl | (simp; done) | (simp [*]; done), by repeat (first | exact Drawn0.refl _ | apply Drawn0.step)⟩

end Go.Proofs.Ytjllbahhkeglfaa.P
namespace Go.Proofs.Ytjllbahhkeglfaa.P
open Go.RowKit Go.Proofs.YtjllbahhkeglfaaW.PrintWords Go.Proofs.YtjllbahhkeglfaaW.PrintLast Go.Proofs.YtjllbahhkeglfaaW.PrintMore
attribute [local go_sem] max2_int min2_int max_two min_two max_three min_three max_four min_four
set_option linter.unusedVariables false
set_option linter.unusedSimpArgs false

/-! ### spec_veGood: function 118 -/
mutual
def spec_veGood.j0 : Nat → Bool → List Int → List Int → Option (Bool)
 | 0, _, _, _ => none
 | k + 1, x24, x102000, x102001 => if x24 = true then (some false) else (spec_veGood.l0 k x102001 (x102001.length : Int) 0 x102000 x102001)
def spec_veGood.l0 : Nat → List Int → Int → Int → List Int → List Int → Option (Bool)
 | 0, _, _, _, _, _ => none
 | k + 1, x26, x27, x28, x102000, x102001 => if x28 < x27 then (if 0 ≤ x28 then (if x28 < (x26.length : Int) then (if x28 < (x102000.length : Int) then ((spec_l1In.f (rd x26 x28) 0 (rd x102000 x28)).bind fun t106 => (if t106 = true then (spec_veGood.l0 k x26 x27 (wrap64 (x28 + 1)) x102000 x102001) else (some false))) else (none)) else (none)) else (none)) else (some true)
end
def spec_veGood.f (k : Nat) (l0_0 : List Int) (l0_1 : List Int) : Option (Bool) := (spec_l1In.f (l0_0.length : Int) 1 5).bind fun t102 => (if t102 = true then (if (l0_1.length : Int) = (l0_0.length : Int) then ((spec_l1All.f k l0_0 1 60).bind fun t103 => (spec_veGood.j0 k (!t103) l0_0 l0_1)) else (spec_veGood.j0 k true l0_0 l0_1)) else (spec_veGood.j0 k true l0_0 l0_1))
theorem spec_veGood.mono_l : ∀ k, (∀ y0 y1 y2, LeO (spec_veGood.j0 k y0 y1 y2) (spec_veGood.j0 (k + 1) y0 y1 y2)) ∧ (∀ y0 y1 y2 y3 y4, LeO (spec_veGood.l0 k y0 y1 y2 y3 y4) (spec_veGood.l0 (k + 1) y0 y1 y2 y3 y4))
 | 0 => ⟨fun _ _ _ r h => by simp [spec_veGood.j0] at h, fun _ _ _ _ _ r h => by simp [spec_veGood.l0] at h⟩
 | k + 1 => by
   obtain ⟨ih0, ih1⟩ := spec_veGood.mono_l k
   refine ⟨?_, ?_⟩
   · intro y0 y1 y2
     unfold spec_veGood.j0
     repeat' first
     | (with_reducible exact ih0 _ _ _)
     | (with_reducible exact ih1 _ _ _ _ _)
     | (with_reducible exact spec_l1All.mono _ _ _ _)
     | (with_reducible exact LeO.refl _)
     | (with_reducible exact LeO.none _)
     | (with_reducible refine LeO.ite ?_ ?_)
     | (with_reducible refine LeO.bind ?_ (fun _ => ?_))
     | exact ih0 _ _ _
     | exact ih1 _ _ _ _ _
     | exact spec_l1All.mono _ _ _ _
     | exact LeO.none _
     | refine LeO.ite ?_ ?_
     | refine LeO.bind ?_ (fun _ => ?_)
   · intro y0 y1 y2 y3 y4
     unfold spec_veGood.l0
     repeat' first
     | (with_reducible exact ih0 _ _ _)
     | (with_reducible exact ih1 _ _ _ _ _)
     | (with_reducible exact spec_l1All.mono _ _ _ _)
     | (with_reducible exact LeO.refl _)
     | (with_reducible exact LeO.none _)
     | (with_reducible refine LeO.ite ?_ ?_)
     | (with_reducible refine LeO.bind ?_ (fun _ => ?_))
     | exact ih0 _ _ _
     | exact ih1 _ _ _ _ _
     | exact spec_l1All.mono _ _ _ _
     | exact LeO.none _
     | refine LeO.ite ?_ ?_
     | refine LeO.bind ?_ (fun _ => ?_)
theorem spec_veGood.mono : ∀ a0 a1 k, LeO (spec_veGood.f k a0 a1) (spec_veGood.f (k + 1) a0 a1) := by
 intro a0 a1 k
 obtain ⟨ih0, ih1⟩ := spec_veGood.mono_l k
 unfold spec_veGood.f
 repeat' first
  | (with_reducible exact ih0 _ _ _)
  | (with_reducible exact ih1 _ _ _ _ _)
  | (with_reducible exact spec_l1All.mono _ _ _ _)
  | (with_reducible exact LeO.refl _)
  | (with_reducible exact LeO.none _)
  | (with_reducible refine LeO.ite ?_ ?_)
  | (with_reducible refine LeO.bind ?_ (fun _ => ?_))
  | exact ih0 _ _ _
  | exact ih1 _ _ _ _ _
  | exact spec_l1All.mono _ _ _ _
  | exact LeO.none _
  | refine LeO.ite ?_ ?_
  | refine LeO.bind ?_ (fun _ => ?_)
set_option maxHeartbeats 8000000 in
set_option maxRecDepth 100000 in
theorem spec_veGood.calls (k : Nat) (A0_0 : Option Addr) (c0_0 : Nat) (l0_0 : List Int) (A0_1 : Option Addr) (c0_1 : Nat) (l0_1 : List Int) (r : Bool) (w : World) (hr0_0 : Kd.C (Kd.int .i64) w A0_0 l0_0.length l0_0) (hc0_0 : l0_0.length ≤ c0_0) (hr0_1 : Kd.C (Kd.int .i64) w A0_1 l0_1.length l0_1) (hc0_1 : l0_1.length ≤ c0_1) (h : spec_veGood.f k l0_0 l0_1 = some r) :
 Calls Try.prog 118 #[.agg #[.slice A0_0 l0_0.length c0_0, .slice A0_1 l0_1.length c0_1]] w fun e w' => e = .returned (.bool r) ∧ Below w.heap.size w w' := by
 have hu33 := Try.underlying33
 have HR0_0 := Aside0.mk hr0_0
 have HC0_0 := Aside0.mk hc0_0
 clear hr0_0 hc0_0
 have HR0_1 := Aside0.mk hr0_1
 have HC0_1 := Aside0.mk hc0_1
 clear hr0_1 hc0_1
 have HB := Aside0.mk (Below.refl w.heap.size w)
 have H : ((spec_l1In.f (l0_0.length : Int) 1 5).bind fun t102 => (if t102 = true then (if (l0_1.length : Int) = (l0_0.length : Int) then ((spec_l1All.f k l0_0 1 60).bind fun t103 => (spec_veGood.j0 k (!t103) l0_0 l0_1)) else (spec_veGood.j0 k true l0_0 l0_1)) else (spec_veGood.j0 k true l0_0 l0_1))) = some r := h
 clear h
 have HC2 := Aside0.mk H
 clear H
 go_enter Try.func118, Try.ntmps118
 go_upto_region 2 with (first | ((with_reducible refine gate_dst (N := 1) rfl ?_); (try (refine gate_guard (by rfl) ?_; dsimp only)); refine box_event ?hg (N := 1) ?hd (cs := #[.slice A0_0 l0_0.length c0_0, .slice A0_1 l0_1.length c0_1]) (t := 33) ?hr ?_; (case hd => rfl); (case hg => rfl); (case hr => first | (go_simp; done) | (go_simp; rfl)); intro gb101 hg w3 hbox hb; have n0_ := Aside0.mk (below_step (by repeat (first | (with_reducible first | exact HB.out | apply below_alloc | apply pw_below_drewN | apply below_drew1) | exact HB.out)) hb); have n1_ := Aside0.mk (hbox); have n2_ := Aside0.mk ((by rw [hg]; exact (below_size (by repeat (first | (with_reducible first | exact HB.out | apply below_alloc | apply pw_below_drewN | apply below_drew1) | exact HB.out))) : w.heap.size ≤ gb101)); have n3_ := Aside0.mk ((by rw [hg]; exact (below_size (by repeat (first | (with_reducible first | exact HB.out | apply below_alloc | apply pw_below_drewN | apply below_drew1) | exact HB.out))) : w.heap.size ≤ gb101)); clear HB; have HB := n0_; have BK101 := n1_; have GW101 := n2_; have GE101 := n3_; clear n0_ n1_ n2_ n3_; clear hb hbox hg; have hcz4_0 : w3.cell? ⟨gb101, 0, none⟩ = some (.slice A0_0 l0_0.length c0_0) := (blk_cell BK101.out 0).trans rfl; have hcz4_1 : w3.cell? ⟨gb101, 1, none⟩ = some (.slice A0_1 l0_1.length c0_1) := (blk_cell BK101.out 1).trans rfl; have hfz4_0 := blk_frozen BK101.out 0; have hfz4_1 := blk_frozen BK101.out 1))
 (try simp only [Act.put, List.setIfInBounds_toArray, List.set_cons_zero, List.set_cons_succ])
 go_cut [24] (fun v24 wc => ∃ (kq : Nat) (x24_1 : Bool), v24 = .bool x24_1 ∧ Aside0 (spec_veGood.j0 kq x24_1 l0_0 l0_1 = some r) ∧ Aside0 (kq ≤ k) ∧ Aside0 (wc.heap[gb101]? = some (.cells #[(.slice A0_0 l0_0.length c0_0), (.slice A0_1 l0_1.length c0_1)] 33 (0, 0))) ∧ Aside0 (Below w.heap.size w wc))
 case first =>
  have H := HC2.out
  clear HC2
  replace H := Option.bind_eq_some_iff.mp H
  obtain ⟨t102, A50, H⟩ := H
  replace H : (if t102 = true then (if (l0_1.length : Int) = (l0_0.length : Int) then ((spec_l1All.f k l0_0 1 60).bind fun t103 => (spec_veGood.j0 k (!t103) l0_0 l0_1)) else (spec_veGood.j0 k true l0_0 l0_1)) else (spec_veGood.j0 k true l0_0 l0_1)) = some r := H
  have A5 := Aside0.mk A50
  clear A50
  by_cases c6 : t102 = true
  · subst c6
    have H1 : (if (l0_1.length : Int) = (l0_0.length : Int) then ((spec_l1All.f k l0_0 1 60).bind fun t103 => (spec_veGood.j0 k (!t103) l0_0 l0_1)) else (spec_veGood.j0 k true l0_0 l0_1)) = some r := by rw [if_pos rfl] at H; exact H
    clear H
    have H := H1
    clear H1
    by_cases c7 : (l0_1.length : Int) = (l0_0.length : Int)
    · rw [if_pos c7] at H
      have c7b0 : ((l0_1.length : Int) == (l0_0.length : Int)) = true := beq_iff_eq.mpr c7
      have c7b1 : ((l0_1.length : Int) != (l0_0.length : Int)) = false := bne_eq_false_iff_eq.mpr c7
      have c7b2 : (l0_1.length == l0_0.length) = true := by first | simpa using c7 | (simp at c7 ⊢; omega)
      clear c7
      (first | rw [c7b0] | (simp only [i64_w, i32_w]; rw [c7b0]) | skip)
      replace H := Option.bind_eq_some_iff.mp H
      obtain ⟨t103, A80, H⟩ := H
      replace H : (spec_veGood.j0 k (!t103) l0_0 l0_1) = some r := H
      have A8 := Aside0.mk A80
      clear A80
      have H' := Aside0.mk H
      clear H
      go_wp2_with (first | ((with_reducible refine gate_callee (f := 142) rfl ?_); refine goesL_ (some 10) rfl rfl Try.func142 (by kernel_rfl) rfl #[.int .i64 (l0_0.length : Int), .int .i64 1, .int .i64 5] rfl (by (try simp only [List.map_toArray, List.map_cons, List.map_nil]); first | done | rfl | (simp only [List.length_drop, List.length_take]; rfl)) ?_; (with_reducible refine (spec_l1In.calls (l0_0.length : Int) 1 5 true _ A5.out).mono ?_); rintro e w' ⟨rfl, ⟨nd, rfl⟩⟩; refine ⟨_, rfl, ?_⟩; have hcz9_0 : w3.cell? ⟨gb101, 0, none⟩ = some (.slice A0_0 l0_0.length c0_0) := (blk_cell BK101.out 0).trans rfl; have hcz9_1 : w3.cell? ⟨gb101, 1, none⟩ = some (.slice A0_1 l0_1.length c0_1) := (blk_cell BK101.out 1).trans rfl; have hfz9_0 := blk_frozen BK101.out 0; have hfz9_1 := blk_frozen BK101.out 1) | (go_at_call 156; (with_reducible refine (spec_l1All.calls k _ _ l0_0 1 60 t103 _ ?side1 ?side2 A8.out).mono ?_); (case side1 => repeat (first | exact (Kd.C_below HR0_0.out (by repeat (first | (with_reducible first | exact HB.out | apply below_alloc | apply pw_below_drewN | apply below_drew1 | refine below_set ?_ GE101.out) | exact HB.out))) | (with_reducible refine Kd.C_alloc ?_ _) | (with_reducible refine Kd.C_drewN ?_ _) | (with_reducible refine Kd.C_drew ?_))); (case side2 => exact HC0_0.out); rintro e w' ⟨rfl, ⟨nd, rfl⟩⟩))
      go_meet
      case rel => exact ⟨_, (!t103), (by first | rfl | (simp; done) | (simp [*]; done)), H', ⟨by first | omega | exact Nat.le_refl _⟩, ⟨by (with_reducible repeat (first | refine blk_drewN ?_ _ | refine blk_drew ?_ | refine blk_alloc ?_ _)); exact BK101.out⟩, ⟨by repeat (first | (with_reducible first | exact HB.out | apply below_alloc | apply pw_below_drewN | apply below_drew1 | refine below_set ?_ GE101.out) | exact HB.out)⟩⟩
    · rw [if_neg c7] at H
      have c7b0 : ((l0_1.length : Int) == (l0_0.length : Int)) = false := beq_eq_false_iff_ne.mpr c7
      have c7b1 : ((l0_1.length : Int) != (l0_0.length : Int)) = true := bne_iff_ne.mpr c7
      have c7b2 : (l0_1.length == l0_0.length) = false := by first | simpa using c7 | (simp at c7 ⊢; omega)
      (first | rw [c7b0] | (simp only [i64_w, i32_w]; rw [c7b0]) | skip)
      have H' := Aside0.mk H
      clear H
      go_wp2_with (first | ((with_reducible refine gate_callee (f := 142) rfl ?_); refine goesL_ (some 10) rfl rfl Try.func142 (by kernel_rfl) rfl #[.int .i64 (l0_0.length : Int), .int .i64 1, .int .i64 5] rfl (by (try simp only [List.map_toArray, List.map_cons, List.map_nil]); first | done | rfl | (simp only [List.length_drop, List.length_take]; rfl)) ?_; (with_reducible refine (spec_l1In.calls (l0_0.length : Int) 1 5 true _ A5.out).mono ?_); rintro e w' ⟨rfl, ⟨nd, rfl⟩⟩; refine ⟨_, rfl, ?_⟩; have hcz10_0 : w3.cell? ⟨gb101, 0, none⟩ = some (.slice A0_0 l0_0.length c0_0) := (blk_cell BK101.out 0).trans rfl; have hcz10_1 : w3.cell? ⟨gb101, 1, none⟩ = some (.slice A0_1 l0_1.length c0_1) := (blk_cell BK101.out 1).trans rfl; have hfz10_0 := blk_frozen BK101.out 0; have hfz10_1 := blk_frozen BK101.out 1))
      go_meet
      case rel => exact ⟨_, (true), (by first | rfl | (simp; done) | (simp [*]; done)), H', ⟨by first | omega | exact Nat.le_refl _⟩, ⟨by (with_reducible repeat (first | refine blk_drewN ?_ _ | refine blk_drew ?_ | refine blk_alloc ?_ _)); exact BK101.out⟩, ⟨by repeat (first | (with_reducible first | exact HB.out | apply below_alloc | apply pw_below_drewN | apply below_drew1 | refine below_set ?_ GE101.out) | exact HB.out)⟩⟩
  · replace c6 := Bool.eq_false_iff.mpr c6
    subst c6
    have H1 : (spec_veGood.j0 k true l0_0 l0_1) = some r := by rw [if_neg (show ¬ (false = true) by decide)] at H; exact H
    clear H
    have H := H1
    clear H1
    have H' := Aside0.mk H
    clear H
    go_wp2_with (first | ((with_reducible refine gate_callee (f := 142) rfl ?_); refine goesL_ (some 10) rfl rfl Try.func142 (by kernel_rfl) rfl #[.int .i64 (l0_0.length : Int), .int .i64 1, .int .i64 5] rfl (by (try simp only [List.map_toArray, List.map_cons, List.map_nil]); first | done | rfl | (simp only [List.length_drop, List.length_take]; rfl)) ?_; (with_reducible refine (spec_l1In.calls (l0_0.length : Int) 1 5 false _ A5.out).mono ?_); rintro e w' ⟨rfl, ⟨nd, rfl⟩⟩; refine ⟨_, rfl, ?_⟩))
    go_meet
    case rel => exact ⟨_, (true), (by first | rfl | (simp; done) | (simp [*]; done)), H', ⟨by first | omega | exact Nat.le_refl _⟩, ⟨by (with_reducible repeat (first | refine blk_drewN ?_ _ | refine blk_drew ?_ | refine blk_alloc ?_ _)); exact BK101.out⟩, ⟨by repeat (first | (with_reducible first | exact HB.out | apply below_alloc | apply pw_below_drewN | apply below_drew1 | refine below_set ?_ GE101.out) | exact HB.out)⟩⟩
 case rest =>
  clear HC2
  try clear c1
  try clear p2
  try clear c6
  try clear c7
  try clear c7b0
  try clear c7b1
  try clear c7b2
  try clear hcz10_0
  try clear hcz10_1
  try clear hcz4_0
  try clear hcz4_1
  try clear hcz9_0
  try clear hcz9_1
  try clear hfz10_0
  try clear hfz10_1
  try clear hfz4_0
  try clear hfz4_1
  try clear hfz9_0
  try clear hfz9_1
  obtain ⟨kq, x24_1, rfl, HA, HJ1, BK101, HB⟩ := hcut
  cases kq with
  | zero => exact absurd HA.out (by simp [spec_veGood.j0])
  | succ kj1 =>
    have H := HA.out
    clear HA
    simp only [spec_veGood.j0] at H
    by_cases c11 : x24_1 = true
    · subst c11
      have H1 : (some false) = some r := by rw [if_pos rfl] at H; exact H
      clear H
      have H := H1
      clear H1
      obtain rfl := Option.some.inj H
      go_wp2
      go_ret
      exact ⟨by first | rfl | (simp [errW_none, errW_some] <;> rfl) | (simp [*, errW_none, errW_some] <;> rfl), by repeat (first | (with_reducible first | exact HB.out | apply below_alloc | apply pw_below_drewN | apply below_drew1 | refine below_set ?_ GE101.out) | exact HB.out)⟩
    · replace c11 := Bool.eq_false_iff.mpr c11
      subst c11
      have H1 : (spec_veGood.l0 kj1 l0_1 (l0_1.length : Int) 0 l0_0 l0_1) = some r := by rw [if_neg (show ¬ (false = true) by decide)] at H; exact H
      clear H
      have H := H1
      clear H1
      have H' := Aside0.mk H
      clear H
      have hcz12_0 : wc.cell? ⟨gb101, 0, none⟩ = some (.slice A0_0 l0_0.length c0_0) := (blk_cell BK101.out 0).trans rfl
      have hcz12_1 : wc.cell? ⟨gb101, 1, none⟩ = some (.slice A0_1 l0_1.length c0_1) := (blk_cell BK101.out 1).trans rfl
      have hfz12_0 := blk_frozen BK101.out 0
      have hfz12_1 := blk_frozen BK101.out 1
      go_wp2
      go_loopg [28] kj1 (fun kq v28 w' => ∃ (x28_2 : Int), v28 = .int .i64 x28_2 ∧ Aside0 (spec_veGood.l0 kq l0_1 (l0_1.length : Int) x28_2 l0_0 l0_1 = some r) ∧ Aside0 (kq ≤ kj1) ∧ Aside0 (w'.heap[gb101]? = some (.cells #[(.slice A0_0 l0_0.length c0_0), (.slice A0_1 l0_1.length c0_1)] 33 (0, 0))) ∧ Aside0 (Below w.heap.size w w'))
      case atStart => exact ⟨(0), (by first | rfl | (simp; done) | (simp [*]; done)), H', ⟨Nat.le_refl _⟩, ⟨by (with_reducible repeat (first | refine blk_drewN ?_ _ | refine blk_drew ?_ | refine blk_alloc ?_ _)); exact BK101.out⟩, ⟨by repeat (first | (with_reducible first | exact HB.out | apply below_alloc | apply pw_below_drewN | apply below_drew1 | refine below_set ?_ GE101.out) | exact HB.out)⟩⟩
      case round =>
       clear H'
       try clear c1
       try clear p2
       try clear c6
       try clear c7
       try clear c7b0
       try clear c7b1
       try clear c7b2
       try clear c11
       try clear hcz10_0
       try clear hcz10_1
       try clear hcz12_0
       try clear hcz12_1
       try clear hcz4_0
       try clear hcz4_1
       try clear hcz9_0
       try clear hcz9_1
       try clear hfz10_0
       try clear hfz10_1
       try clear hfz12_0
       try clear hfz12_1
       try clear hfz4_0
       try clear hfz4_1
       try clear hfz9_0
       try clear hfz9_1
       try clear p2
       obtain ⟨x28_2, rfl, HA, HK2, BK101, HB⟩ := hrel
       cases gk with
       | zero => exact absurd HA.out (by simp [spec_veGood.l0])
       | succ k2 =>
         have H := HA.out
         clear HA
         simp only [spec_veGood.l0] at H
         by_cases c13 : x28_2 < (l0_1.length : Int)
         · rw [if_pos c13] at H
           have c13b0 : decide (x28_2 < (l0_1.length : Int)) = true := decide_eq_true c13
           clear c13
           by_cases c14 : 0 ≤ x28_2
           · rw [if_pos c14] at H
             have c14b0 : decide (0 ≤ x28_2) = true := decide_eq_true c14
             clear c14
             by_cases c15 : x28_2 < (l0_1.length : Int)
             · rw [if_pos c15] at H
               have c15b0 : decide (x28_2 < (l0_1.length : Int)) = true := decide_eq_true c15
               clear c15
               by_cases c16 : x28_2 < (l0_0.length : Int)
               · rw [if_pos c16] at H
                 have c16b0 : decide (x28_2 < (l0_0.length : Int)) = true := decide_eq_true c16
                 clear c16
                 replace H := Option.bind_eq_some_iff.mp H
                 obtain ⟨t106, A170, H⟩ := H
                 replace H : (if t106 = true then (spec_veGood.l0 k2 l0_1 (l0_1.length : Int) (wrap64 (x28_2 + 1)) l0_0 l0_1) else (some false)) = some r := H
                 have A17 := Aside0.mk A170
                 clear A170
                 by_cases c18 : t106 = true
                 · subst c18
                   have H1 : (spec_veGood.l0 k2 l0_1 (l0_1.length : Int) (wrap64 (x28_2 + 1)) l0_0 l0_1) = some r := by rw [if_pos rfl] at H; exact H
                   clear H
                   have H := H1
                   clear H1
                   have H' := Aside0.mk H
                   clear H
                   have p104 : 0 ≤ (x28_2 : Int) := of_decide_eq_true (by first | (with_reducible assumption) | assumption)
                   have q104 : x28_2 < (l0_1.length : Int) := of_decide_eq_true (by first | (with_reducible assumption) | assumption)
                   obtain ⟨ad104, e104, hx104_0⟩ := Kd.at_int HR0_1.out x28_2 p104 q104
                   cases e104
                   replace hx104_0 := (HB.out.cell (World.block_lt_of_cell? w _ hx104_0)).trans hx104_0
                   replace p104 := eq_true p104
                   replace q104 := eq_true q104
                   have hcz19_0 : wr.cell? ⟨gb101, 0, none⟩ = some (.slice A0_0 l0_0.length c0_0) := (blk_cell BK101.out 0).trans rfl
                   have hcz19_1 : wr.cell? ⟨gb101, 1, none⟩ = some (.slice (some ad104) l0_1.length c0_1) := (blk_cell BK101.out 1).trans rfl
                   have hfz19_0 := blk_frozen BK101.out 0
                   have hfz19_1 := blk_frozen BK101.out 1
                   have p105 : 0 ≤ (x28_2 : Int) := of_decide_eq_true (by first | (with_reducible assumption) | assumption)
                   have q105 : x28_2 < (l0_0.length : Int) := of_decide_eq_true (by first | (with_reducible assumption) | assumption)
                   obtain ⟨ad105, e105, hx105_0⟩ := Kd.at_int HR0_0.out x28_2 p105 q105
                   cases e105
                   replace hx105_0 := (HB.out.cell (World.block_lt_of_cell? w _ hx105_0)).trans hx105_0
                   replace p105 := eq_true p105
                   replace q105 := eq_true q105
                   go_wp2_with (first | ((with_reducible refine gate_callee (f := 142) rfl ?_); refine goesL_ (some 39) rfl rfl Try.func142 (by kernel_rfl) rfl #[.int .i64 (rd l0_1 x28_2), .int .i64 0, .int .i64 (rd l0_0 x28_2)] rfl (by (try simp only [List.map_toArray, List.map_cons, List.map_nil]); first | done | rfl | (simp only [List.length_drop, List.length_take]; rfl)) ?_; (with_reducible refine (spec_l1In.calls (rd l0_1 x28_2) 0 (rd l0_0 x28_2) true _ A17.out).mono ?_); rintro e w' ⟨rfl, ⟨nd, rfl⟩⟩; refine ⟨_, rfl, ?_⟩))
                   go_roundg k2
                   case measure => have := HJ1.out; have := HK2.out; omega
                   case rel => exact ⟨(wrap64 (x28_2 + 1)), (by first | rfl | (simp; done) | (simp [*]; done)), H', ⟨by have := HJ1.out; have := HK2.out; omega⟩, ⟨by (with_reducible repeat (first | refine blk_drewN ?_ _ | refine blk_drew ?_ | refine blk_alloc ?_ _)); exact BK101.out⟩, ⟨by repeat (first | (with_reducible first | exact HB.out | apply below_alloc | apply pw_below_drewN | apply below_drew1 | refine below_set ?_ GE101.out) | exact HB.out)⟩⟩
                 · replace c18 := Bool.eq_false_iff.mpr c18
                   subst c18
                   have H1 : (some false) = some r := by rw [if_neg (show ¬ (false = true) by decide)] at H; exact H
                   clear H
                   have H := H1
                   clear H1
                   obtain rfl := Option.some.inj H
                   have p104 : 0 ≤ (x28_2 : Int) := of_decide_eq_true (by first | (with_reducible assumption) | assumption)
                   have q104 : x28_2 < (l0_1.length : Int) := of_decide_eq_true (by first | (with_reducible assumption) | assumption)
                   obtain ⟨ad104, e104, hx104_0⟩ := Kd.at_int HR0_1.out x28_2 p104 q104
                   cases e104
                   replace hx104_0 := (HB.out.cell (World.block_lt_of_cell? w _ hx104_0)).trans hx104_0
                   replace p104 := eq_true p104
                   replace q104 := eq_true q104
                   have hcz20_0 : wr.cell? ⟨gb101, 0, none⟩ = some (.slice A0_0 l0_0.length c0_0) := (blk_cell BK101.out 0).trans rfl
                   have hcz20_1 : wr.cell? ⟨gb101, 1, none⟩ = some (.slice (some ad104) l0_1.length c0_1) := (blk_cell BK101.out 1).trans rfl
                   have hfz20_0 := blk_frozen BK101.out 0
                   have hfz20_1 := blk_frozen BK101.out 1
                   have p105 : 0 ≤ (x28_2 : Int) := of_decide_eq_true (by first | (with_reducible assumption) | assumption)
                   have q105 : x28_2 < (l0_0.length : Int) := of_decide_eq_true (by first | (with_reducible assumption) | assumption)
                   obtain ⟨ad105, e105, hx105_0⟩ := Kd.at_int HR0_0.out x28_2 p105 q105
                   cases e105
                   replace hx105_0 := (HB.out.cell (World.block_lt_of_cell? w _ hx105_0)).trans hx105_0
                   replace p105 := eq_true p105
                   replace q105 := eq_true q105
                   go_wp2_with (first | ((with_reducible refine gate_callee (f := 142) rfl ?_); refine goesL_ (some 39) rfl rfl Try.func142 (by kernel_rfl) rfl #[.int .i64 (rd l0_1 x28_2), .int .i64 0, .int .i64 (rd l0_0 x28_2)] rfl (by (try simp only [List.map_toArray, List.map_cons, List.map_nil]); first | done | rfl | (simp only [List.length_drop, List.length_take]; rfl)) ?_; (with_reducible refine (spec_l1In.calls (rd l0_1 x28_2) 0 (rd l0_0 x28_2) false _ A17.out).mono ?_); rintro e w' ⟨rfl, ⟨nd, rfl⟩⟩; refine ⟨_, rfl, ?_⟩))
                   go_ret
                   exact ⟨by first | rfl | (simp [errW_none, errW_some] <;> rfl) | (simp [*, errW_none, errW_some] <;> rfl), by repeat (first | (with_reducible first | exact HB.out | apply below_alloc | apply pw_below_drewN | apply below_drew1 | refine below_set ?_ GE101.out) | exact HB.out)⟩
               · rw [if_neg c16] at H
                 exact absurd H (by simp)
             · rw [if_neg c15] at H
               exact absurd H (by simp)
           · rw [if_neg c14] at H
             exact absurd H (by simp)
         · rw [if_neg c13] at H
           have c13b0 : decide (x28_2 < (l0_1.length : Int)) = false := decide_eq_false c13
           clear c13
           obtain rfl := Option.some.inj H
           go_wp2
           go_ret
           exact ⟨by first | rfl | (simp [errW_none, errW_some] <;> rfl) | (simp [*, errW_none, errW_some] <;> rfl), by repeat (first | (with_reducible first | exact HB.out | apply below_alloc | apply pw_below_drewN | apply below_drew1 | refine below_set ?_ GE101.out) | exact HB.out)⟩

end Go.Proofs.Ytjllbahhkeglfaa.P
namespace Go.Proofs.Ytjllbahhkeglfaa.P
open Go.RowKit Go.Proofs.YtjllbahhkeglfaaW.PrintWords Go.Proofs.YtjllbahhkeglfaaW.PrintLast Go.Proofs.YtjllbahhkeglfaaW.PrintMore
attribute [local go_sem] max2_int min2_int max_two min_two max_three min_three max_four min_four
set_option linter.unusedVariables false
set_option linter.unusedSimpArgs false

/-! ### spec_plLess: function 148 -/
def spec_plLess.l0 : Nat → List Int → Int → Int → List Int → List Int → Option (Bool)
 | 0, _, _, _, _, _ => none
 | k + 1, x8, x9, x10, x103000, x103001 => if x10 < x9 then (if 0 ≤ x10 then (if x10 < (x8.length : Int) then (if x10 < (x103001.length : Int) then (if (rd x8 x10) = (rd x103001 x10) then (spec_plLess.l0 k x8 x9 (wrap64 (x10 + 1)) x103000 x103001) else (some (decide ((rd x8 x10) < (rd x103001 x10))))) else (none)) else (none)) else (none)) else (some false)
def spec_plLess.f (k : Nat) (l0_0 : List Int) (l0_1 : List Int) (l1_0 : List Int) (l1_1 : List Int) : Option (Bool) := spec_plLess.l0 k l0_1 (l0_1.length : Int) 0 l1_0 l1_1
theorem spec_plLess.mono_l : ∀ k, (∀ y0 y1 y2 y3 y4, LeO (spec_plLess.l0 k y0 y1 y2 y3 y4) (spec_plLess.l0 (k + 1) y0 y1 y2 y3 y4))
 | 0 => fun _ _ _ _ _ r h => by simp [spec_plLess.l0] at h
 | k + 1 => by
   have ih0 := spec_plLess.mono_l k
   · intro y0 y1 y2 y3 y4
     unfold spec_plLess.l0
     repeat' first
     | (with_reducible exact ih0 _ _ _ _ _)
     | (with_reducible exact LeO.refl _)
     | (with_reducible exact LeO.none _)
     | (with_reducible refine LeO.ite ?_ ?_)
     | (with_reducible refine LeO.bind ?_ (fun _ => ?_))
     | exact ih0 _ _ _ _ _
     | exact LeO.none _
     | refine LeO.ite ?_ ?_
     | refine LeO.bind ?_ (fun _ => ?_)
theorem spec_plLess.mono : ∀ a0 a1 a2 a3 k, LeO (spec_plLess.f k a0 a1 a2 a3) (spec_plLess.f (k + 1) a0 a1 a2 a3) := by
 intro a0 a1 a2 a3 k
 have ih0 := spec_plLess.mono_l k
 unfold spec_plLess.f
 repeat' first
  | (with_reducible exact ih0 _ _ _ _ _)
  | (with_reducible exact LeO.refl _)
  | (with_reducible exact LeO.none _)
  | (with_reducible refine LeO.ite ?_ ?_)
  | (with_reducible refine LeO.bind ?_ (fun _ => ?_))
  | exact ih0 _ _ _ _ _
  | exact LeO.none _
  | refine LeO.ite ?_ ?_
  | refine LeO.bind ?_ (fun _ => ?_)
set_option maxHeartbeats 8000000 in
set_option maxRecDepth 100000 in
theorem spec_plLess.calls (k : Nat) (A0_0 : Option Addr) (c0_0 : Nat) (l0_0 : List Int) (A0_1 : Option Addr) (c0_1 : Nat) (l0_1 : List Int) (A1_0 : Option Addr) (c1_0 : Nat) (l1_0 : List Int) (A1_1 : Option Addr) (c1_1 : Nat) (l1_1 : List Int) (r : Bool) (w : World) (hr0_0 : Kd.C (Kd.int .i64) w A0_0 l0_0.length l0_0) (hc0_0 : l0_0.length ≤ c0_0) (hr0_1 : Kd.C (Kd.int .i64) w A0_1 l0_1.length l0_1) (hc0_1 : l0_1.length ≤ c0_1) (hr1_0 : Kd.C (Kd.int .i64) w A1_0 l1_0.length l1_0) (hc1_0 : l1_0.length ≤ c1_0) (hr1_1 : Kd.C (Kd.int .i64) w A1_1 l1_1.length l1_1) (hc1_1 : l1_1.length ≤ c1_1) (h : spec_plLess.f k l0_0 l0_1 l1_0 l1_1 = some r) :
 Calls Try.prog 148 #[.agg #[.slice A0_0 l0_0.length c0_0, .slice A0_1 l0_1.length c0_1], .agg #[.slice A1_0 l1_0.length c1_0, .slice A1_1 l1_1.length c1_1]] w fun e w' => e = .returned (.bool r) ∧ Below w.heap.size w w' := by
 have hu33 := Try.underlying33
 have HR0_0 := Aside0.mk hr0_0
 have HC0_0 := Aside0.mk hc0_0
 clear hr0_0 hc0_0
 have HR0_1 := Aside0.mk hr0_1
 have HC0_1 := Aside0.mk hc0_1
 clear hr0_1 hc0_1
 have HR1_0 := Aside0.mk hr1_0
 have HC1_0 := Aside0.mk hc1_0
 clear hr1_0 hc1_0
 have HR1_1 := Aside0.mk hr1_1
 have HC1_1 := Aside0.mk hc1_1
 clear hr1_1 hc1_1
 have HB := Aside0.mk (Below.refl w.heap.size w)
 have H : (spec_plLess.l0 k l0_1 (l0_1.length : Int) 0 l1_0 l1_1) = some r := h
 clear h
 have H' := Aside0.mk H
 clear H
 go_enter Try.func148, Try.ntmps148
 go_wp2_with (first | ((with_reducible refine gate_dst (N := 2) rfl ?_); refine box_event ?hg (N := 2) ?hd (cs := #[.slice A0_0 l0_0.length c0_0, .slice A0_1 l0_1.length c0_1]) (t := 33) ?hr ?_; (case hd => rfl); (case hg => rfl); (case hr => first | (go_simp; done) | (go_simp; rfl)); intro gb101 hg w3 hbox hb; have n0_ := Aside0.mk (below_step (by repeat (first | (with_reducible first | exact HB.out | apply below_alloc | apply pw_below_drewN | apply below_drew1) | exact HB.out)) hb); have n1_ := Aside0.mk (hbox); have n2_ := Aside0.mk ((by rw [hg]; exact (below_size (by repeat (first | (with_reducible first | exact HB.out | apply below_alloc | apply pw_below_drewN | apply below_drew1) | exact HB.out))) : w.heap.size ≤ gb101)); have n3_ := Aside0.mk ((by rw [hg]; exact (below_size (by repeat (first | (with_reducible first | exact HB.out | apply below_alloc | apply pw_below_drewN | apply below_drew1) | exact HB.out))) : w.heap.size ≤ gb101)); clear HB; have HB := n0_; have BK101 := n1_; have GW101 := n2_; have GE101 := n3_; clear n0_ n1_ n2_ n3_; clear hb hbox hg) | ((with_reducible refine gate_dst (N := 3) rfl ?_); refine box_event ?hg (N := 3) ?hd (cs := #[.slice A1_0 l1_0.length c1_0, .slice A1_1 l1_1.length c1_1]) (t := 33) ?hr ?_; (case hd => rfl); (case hg => rfl); (case hr => first | (go_simp; done) | (go_simp; rfl)); intro gb102 hg w4 hbox hb; have n0_ := Aside0.mk (blk_below (g := gb101) (o := .cells #[.slice A0_0 l0_0.length c0_0, .slice A0_1 l0_1.length c0_1] 33 (0, 0)) (by (with_reducible repeat (first | refine blk_drewN ?_ _ | refine blk_drew ?_ | refine blk_alloc ?_ _)); exact BK101.out) hb); have n1_ := Aside0.mk (below_step (by repeat (first | (with_reducible first | exact HB.out | apply below_alloc | apply pw_below_drewN | apply below_drew1 | refine below_set ?_ GE101.out) | exact HB.out)) hb); have n2_ := Aside0.mk (hbox); have n3_ := Aside0.mk ((by rw [hg]; exact (below_size (by repeat (first | (with_reducible first | exact HB.out | apply below_alloc | apply pw_below_drewN | apply below_drew1 | refine below_set ?_ GE101.out) | exact HB.out))) : w.heap.size ≤ gb102)); have n4_ := Aside0.mk ((by rw [hg]; exact (below_size (by repeat (first | (with_reducible first | exact HB.out | apply below_alloc | apply pw_below_drewN | apply below_drew1 | refine below_set ?_ GE101.out) | exact HB.out))) : w.heap.size ≤ gb102)); have n5_ := Aside0.mk ((by rw [hg]; exact Nat.ne_of_lt (blk_lt (g := gb101) (o := .cells #[.slice A0_0 l0_0.length c0_0, .slice A0_1 l0_1.length c0_1] 33 (0, 0)) (by (with_reducible repeat (first | refine blk_drewN ?_ _ | refine blk_drew ?_ | refine blk_alloc ?_ _)); exact BK101.out)) : gb101 ≠ gb102)); have n6_ := Aside0.mk ((by rw [hg]; exact Nat.ne_of_gt (blk_lt (g := gb101) (o := .cells #[.slice A0_0 l0_0.length c0_0, .slice A0_1 l0_1.length c0_1] 33 (0, 0)) (by (with_reducible repeat (first | refine blk_drewN ?_ _ | refine blk_drew ?_ | refine blk_alloc ?_ _)); exact BK101.out)) : gb102 ≠ gb101)); clear BK101; clear HB; have BK101 := n0_; have HB := n1_; have BK102 := n2_; have GW102 := n3_; have GE102 := n4_; have NB101_102 := n5_; have NB102_101 := n6_; clear n0_ n1_ n2_ n3_ n4_ n5_ n6_; clear hb hbox hg; have hnb5 := NB101_102.out; have hnc5 := NB102_101.out; have hcz6_0 : w4.cell? ⟨gb101, 0, none⟩ = some (.slice A0_0 l0_0.length c0_0) := (blk_cell BK101.out 0).trans rfl; have hcz6_1 : w4.cell? ⟨gb101, 1, none⟩ = some (.slice A0_1 l0_1.length c0_1) := (blk_cell BK101.out 1).trans rfl; have hfz6_0 := blk_frozen BK101.out 0; have hfz6_1 := blk_frozen BK101.out 1))
 go_loopg [10] k (fun kq v10 w' => ∃ (x10_1 : Int), v10 = .int .i64 x10_1 ∧ Aside0 (spec_plLess.l0 kq l0_1 (l0_1.length : Int) x10_1 l1_0 l1_1 = some r) ∧ Aside0 (kq ≤ k) ∧ Aside0 (w'.heap[gb101]? = some (.cells #[(.slice A0_0 l0_0.length c0_0), (.slice A0_1 l0_1.length c0_1)] 33 (0, 0))) ∧ Aside0 (w'.heap[gb102]? = some (.cells #[(.slice A1_0 l1_0.length c1_0), (.slice A1_1 l1_1.length c1_1)] 33 (0, 0))) ∧ Aside0 (Below w.heap.size w w'))
 case atStart => exact ⟨(0), (by first | rfl | (simp; done) | (simp [*]; done)), H', ⟨Nat.le_refl _⟩, ⟨by (with_reducible repeat (first | refine blk_drewN ?_ _ | refine blk_drew ?_ | refine blk_alloc ?_ _)); exact BK101.out⟩, ⟨by (with_reducible repeat (first | refine blk_drewN ?_ _ | refine blk_drew ?_ | refine blk_alloc ?_ _)); exact BK102.out⟩, ⟨by repeat (first | (with_reducible first | exact HB.out | apply below_alloc | apply pw_below_drewN | apply below_drew1 | refine below_set ?_ GE101.out | refine below_set ?_ GE102.out) | exact HB.out)⟩⟩
 case round =>
  clear H'
  try clear c1
  try clear p2
  try clear c5
  try clear hcz6_0
  try clear hcz6_1
  try clear hfz6_0
  try clear hfz6_1
  obtain ⟨x10_1, rfl, HA, HK1, BK101, BK102, HB⟩ := hrel
  cases gk with
  | zero => exact absurd HA.out (by simp [spec_plLess.l0])
  | succ k1 =>
    have H := HA.out
    clear HA
    simp only [spec_plLess.l0] at H
    by_cases c7 : x10_1 < (l0_1.length : Int)
    · rw [if_pos c7] at H
      have c7b0 : decide (x10_1 < (l0_1.length : Int)) = true := decide_eq_true c7
      clear c7
      by_cases c8 : 0 ≤ x10_1
      · rw [if_pos c8] at H
        have c8b0 : decide (0 ≤ x10_1) = true := decide_eq_true c8
        clear c8
        by_cases c9 : x10_1 < (l0_1.length : Int)
        · rw [if_pos c9] at H
          have c9b0 : decide (x10_1 < (l0_1.length : Int)) = true := decide_eq_true c9
          clear c9
          by_cases c10 : x10_1 < (l1_1.length : Int)
          · rw [if_pos c10] at H
            have c10b0 : decide (x10_1 < (l1_1.length : Int)) = true := decide_eq_true c10
            clear c10
            by_cases c11 : (rd l0_1 x10_1) = (rd l1_1 x10_1)
            · rw [if_pos c11] at H
              have c11b0 : ((rd l0_1 x10_1) == (rd l1_1 x10_1)) = true := beq_iff_eq.mpr c11
              have c11b1 : ((rd l0_1 x10_1) != (rd l1_1 x10_1)) = false := bne_eq_false_iff_eq.mpr c11
              clear c11
              have H' := Aside0.mk H
              clear H
              have p103 : 0 ≤ (x10_1 : Int) := of_decide_eq_true (by first | (with_reducible assumption) | assumption)
              have q103 : x10_1 < (l0_1.length : Int) := of_decide_eq_true (by first | (with_reducible assumption) | assumption)
              obtain ⟨ad103, e103, hx103_0⟩ := Kd.at_int HR0_1.out x10_1 p103 q103
              cases e103
              replace hx103_0 := (HB.out.cell (World.block_lt_of_cell? w _ hx103_0)).trans hx103_0
              replace p103 := eq_true p103
              replace q103 := eq_true q103
              have hnb12 := NB102_101.out
              have hnc12 := NB101_102.out
              have hcz13_0 : wr.cell? ⟨gb102, 0, none⟩ = some (.slice A1_0 l1_0.length c1_0) := (blk_cell BK102.out 0).trans rfl
              have hcz13_1 : wr.cell? ⟨gb102, 1, none⟩ = some (.slice A1_1 l1_1.length c1_1) := (blk_cell BK102.out 1).trans rfl
              have hfz13_0 := blk_frozen BK102.out 0
              have hfz13_1 := blk_frozen BK102.out 1
              have p104 : 0 ≤ (x10_1 : Int) := of_decide_eq_true (by first | (with_reducible assumption) | assumption)
              have q104 : x10_1 < (l1_1.length : Int) := of_decide_eq_true (by first | (with_reducible assumption) | assumption)
              obtain ⟨ad104, e104, hx104_0⟩ := Kd.at_int HR1_1.out x10_1 p104 q104
              cases e104
              replace hx104_0 := (HB.out.cell (World.block_lt_of_cell? w _ hx104_0)).trans hx104_0
              replace p104 := eq_true p104
              replace q104 := eq_true q104
              go_wp2
              go_roundg k1
              case measure => have := HK1.out; omega
              case rel => exact ⟨(wrap64 (x10_1 + 1)), (by first | rfl | (simp; done) | (simp [*]; done)), H', ⟨by have := HK1.out; omega⟩, ⟨by (with_reducible repeat (first | refine blk_drewN ?_ _ | refine blk_drew ?_ | refine blk_alloc ?_ _)); exact BK101.out⟩, ⟨by (with_reducible repeat (first | refine blk_drewN ?_ _ | refine blk_drew ?_ | refine blk_alloc ?_ _)); exact BK102.out⟩, ⟨by repeat (first | (with_reducible first | exact HB.out | apply below_alloc | apply pw_below_drewN | apply below_drew1 | refine below_set ?_ GE101.out | refine below_set ?_ GE102.out) | exact HB.out)⟩⟩
            · rw [if_neg c11] at H
              have c11b0 : ((rd l0_1 x10_1) == (rd l1_1 x10_1)) = false := beq_eq_false_iff_ne.mpr c11
              have c11b1 : ((rd l0_1 x10_1) != (rd l1_1 x10_1)) = true := bne_iff_ne.mpr c11
              obtain rfl := Option.some.inj H
              have p103 : 0 ≤ (x10_1 : Int) := of_decide_eq_true (by first | (with_reducible assumption) | assumption)
              have q103 : x10_1 < (l0_1.length : Int) := of_decide_eq_true (by first | (with_reducible assumption) | assumption)
              obtain ⟨ad103, e103, hx103_0⟩ := Kd.at_int HR0_1.out x10_1 p103 q103
              cases e103
              replace hx103_0 := (HB.out.cell (World.block_lt_of_cell? w _ hx103_0)).trans hx103_0
              replace p103 := eq_true p103
              replace q103 := eq_true q103
              have hnb14 := NB102_101.out
              have hnc14 := NB101_102.out
              have hcz15_0 : wr.cell? ⟨gb102, 0, none⟩ = some (.slice A1_0 l1_0.length c1_0) := (blk_cell BK102.out 0).trans rfl
              have hcz15_1 : wr.cell? ⟨gb102, 1, none⟩ = some (.slice A1_1 l1_1.length c1_1) := (blk_cell BK102.out 1).trans rfl
              have hfz15_0 := blk_frozen BK102.out 0
              have hfz15_1 := blk_frozen BK102.out 1
              have p104 : 0 ≤ (x10_1 : Int) := of_decide_eq_true (by first | (with_reducible assumption) | assumption)
              have q104 : x10_1 < (l1_1.length : Int) := of_decide_eq_true (by first | (with_reducible assumption) | assumption)
              obtain ⟨ad104, e104, hx104_0⟩ := Kd.at_int HR1_1.out x10_1 p104 q104
              cases e104
              replace hx104_0 := (HB.out.cell (World.block_lt_of_cell? w _ hx104_0)).trans hx104_0
              replace p104 := eq_true p104
              replace q104 := eq_true q104
              have p105 : 0 ≤ (x10_1 : Int) := of_decide_eq_true (by first | (with_reducible assumption) | assumption)
              have q105 : x10_1 < (l1_1.length : Int) := of_decide_eq_true (by first | (with_reducible assumption) | assumption)
              obtain ⟨ad105, e105, hx105_0⟩ := Kd.at_int HR1_1.out x10_1 p105 q105
              obtain rfl : ad104 = ad105 := (by injection e105)
              replace hx105_0 := (HB.out.cell (World.block_lt_of_cell? w _ hx105_0)).trans hx105_0
              replace p105 := eq_true p105
              replace q105 := eq_true q105
              go_wp2
              go_ret
              exact ⟨by first | rfl | (simp [errW_none, errW_some] <;> rfl) | (simp [*, errW_none, errW_some] <;> rfl), by repeat (first | (with_reducible first | exact HB.out | apply below_alloc | apply pw_below_drewN | apply below_drew1 | refine below_set ?_ GE101.out | refine below_set ?_ GE102.out) | exact HB.out)⟩
          · rw [if_neg c10] at H
            exact absurd H (by simp)
        · rw [if_neg c9] at H
          exact absurd H (by simp)
      · rw [if_neg c8] at H
        exact absurd H (by simp)
    · rw [if_neg c7] at H
      have c7b0 : decide (x10_1 < (l0_1.length : Int)) = false := decide_eq_false c7
      clear c7
      obtain rfl := Option.some.inj H
      go_wp2
      go_ret
      exact ⟨by first | rfl | (simp [errW_none, errW_some] <;> rfl) | (simp [*, errW_none, errW_some] <;> rfl), by repeat (first | (with_reducible first | exact HB.out | apply below_alloc | apply pw_below_drewN | apply below_drew1 | refine below_set ?_ GE101.out | refine below_set ?_ GE102.out) | exact HB.out)⟩

end Go.Proofs.Ytjllbahhkeglfaa.P
namespace Go.Proofs.Ytjllbahhkeglfaa.P
open Go.RowKit Go.Proofs.YtjllbahhkeglfaaW.PrintWords Go.Proofs.YtjllbahhkeglfaaW.PrintLast Go.Proofs.YtjllbahhkeglfaaW.PrintMore
attribute [local go_sem] max2_int min2_int max_two min_two max_three min_three max_four min_four
set_option linter.unusedVariables false
set_option linter.unusedSimpArgs false

/-! ### spec_veSame: function 124 -/
def spec_veSame.l0 : Nat → List Int → Int → Int → List Int → List Int → Option (Bool)
 | 0, _, _, _, _, _ => none
 | k + 1, x8, x9, x10, x103000, x103001 => if x10 < x9 then (if 0 ≤ x10 then (if x10 < (x8.length : Int) then (if x10 < (x103001.length : Int) then (if (rd x8 x10) = (rd x103001 x10) then (spec_veSame.l0 k x8 x9 (wrap64 (x10 + 1)) x103000 x103001) else (some false)) else (none)) else (none)) else (none)) else (some true)
def spec_veSame.f (k : Nat) (l0_0 : List Int) (l0_1 : List Int) (l1_0 : List Int) (l1_1 : List Int) : Option (Bool) := spec_veSame.l0 k l0_1 (l0_1.length : Int) 0 l1_0 l1_1
theorem spec_veSame.mono_l : ∀ k, (∀ y0 y1 y2 y3 y4, LeO (spec_veSame.l0 k y0 y1 y2 y3 y4) (spec_veSame.l0 (k + 1) y0 y1 y2 y3 y4))
 | 0 => fun _ _ _ _ _ r h => by simp [spec_veSame.l0] at h
 | k + 1 => by
   have ih0 := spec_veSame.mono_l k
   · intro y0 y1 y2 y3 y4
     unfold spec_veSame.l0
     repeat' first
     | (with_reducible exact ih0 _ _ _ _ _)
     | (with_reducible exact LeO.refl _)
     | (with_reducible exact LeO.none _)
     | (with_reducible refine LeO.ite ?_ ?_)
     | (with_reducible refine LeO.bind ?_ (fun _ => ?_))
     | exact ih0 _ _ _ _ _
     | exact LeO.none _
     | refine LeO.ite ?_ ?_
     | refine LeO.bind ?_ (fun _ => ?_)
theorem spec_veSame.mono : ∀ a0 a1 a2 a3 k, LeO (spec_veSame.f k a0 a1 a2 a3) (spec_veSame.f (k + 1) a0 a1 a2 a3) := by
 intro a0 a1 a2 a3 k
 have ih0 := spec_veSame.mono_l k
 unfold spec_veSame.f
 repeat' first
  | (with_reducible exact ih0 _ _ _ _ _)
  | (with_reducible exact LeO.refl _)
  | (with_reducible exact LeO.none _)
  | (with_reducible refine LeO.ite ?_ ?_)
  | (with_reducible refine LeO.bind ?_ (fun _ => ?_))
  | exact ih0 _ _ _ _ _
  | exact LeO.none _
  | refine LeO.ite ?_ ?_
  | refine LeO.bind ?_ (fun _ => ?_)
set_option maxHeartbeats 8000000 in
set_option maxRecDepth 100000 in
theorem spec_veSame.calls (k : Nat) (A0_0 : Option Addr) (c0_0 : Nat) (l0_0 : List Int) (A0_1 : Option Addr) (c0_1 : Nat) (l0_1 : List Int) (A1_0 : Option Addr) (c1_0 : Nat) (l1_0 : List Int) (A1_1 : Option Addr) (c1_1 : Nat) (l1_1 : List Int) (r : Bool) (w : World) (hr0_0 : Kd.C (Kd.int .i64) w A0_0 l0_0.length l0_0) (hc0_0 : l0_0.length ≤ c0_0) (hr0_1 : Kd.C (Kd.int .i64) w A0_1 l0_1.length l0_1) (hc0_1 : l0_1.length ≤ c0_1) (hr1_0 : Kd.C (Kd.int .i64) w A1_0 l1_0.length l1_0) (hc1_0 : l1_0.length ≤ c1_0) (hr1_1 : Kd.C (Kd.int .i64) w A1_1 l1_1.length l1_1) (hc1_1 : l1_1.length ≤ c1_1) (h : spec_veSame.f k l0_0 l0_1 l1_0 l1_1 = some r) :
 Calls Try.prog 124 #[.agg #[.slice A0_0 l0_0.length c0_0, .slice A0_1 l0_1.length c0_1], .agg #[.slice A1_0 l1_0.length c1_0, .slice A1_1 l1_1.length c1_1]] w fun e w' => e = .returned (.bool r) ∧ Below w.heap.size w w' := by
 have hu33 := Try.underlying33
 have HR0_0 := Aside0.mk hr0_0
 have HC0_0 := Aside0.mk hc0_0
 clear hr0_0 hc0_0
 have HR0_1 := Aside0.mk hr0_1
 have HC0_1 := Aside0.mk hc0_1
 clear hr0_1 hc0_1
 have HR1_0 := Aside0.mk hr1_0
 have HC1_0 := Aside0.mk hc1_0
 clear hr1_0 hc1_0
 have HR1_1 := Aside0.mk hr1_1
 have HC1_1 := Aside0.mk hc1_1
 clear hr1_1 hc1_1
 have HB := Aside0.mk (Below.refl w.heap.size w)
 have H : (spec_veSame.l0 k l0_1 (l0_1.length : Int) 0 l1_0 l1_1) = some r := h
 clear h
 have H' := Aside0.mk H
 clear H
 go_enter Try.func124, Try.ntmps124
 go_wp2_with (first | ((with_reducible refine gate_dst (N := 2) rfl ?_); refine box_event ?hg (N := 2) ?hd (cs := #[.slice A0_0 l0_0.length c0_0, .slice A0_1 l0_1.length c0_1]) (t := 33) ?hr ?_; (case hd => rfl); (case hg => rfl); (case hr => first | (go_simp; done) | (go_simp; rfl)); intro gb101 hg w3 hbox hb; have n0_ := Aside0.mk (below_step (by repeat (first | (with_reducible first | exact HB.out | apply below_alloc | apply pw_below_drewN | apply below_drew1) | exact HB.out)) hb); have n1_ := Aside0.mk (hbox); have n2_ := Aside0.mk ((by rw [hg]; exact (below_size (by repeat (first | (with_reducible first | exact HB.out | apply below_alloc | apply pw_below_drewN | apply below_drew1) | exact HB.out))) : w.heap.size ≤ gb101)); have n3_ := Aside0.mk ((by rw [hg]; exact (below_size (by repeat (first | (with_reducible first | exact HB.out | apply below_alloc | apply pw_below_drewN | apply below_drew1) | exact HB.out))) : w.heap.size ≤ gb101)); clear HB; have HB := n0_; have BK101 := n1_; have GW101 := n2_; have GE101 := n3_; clear n0_ n1_ n2_ n3_; clear hb hbox hg) | ((with_reducible refine gate_dst (N := 3) rfl ?_); refine box_event ?hg (N := 3) ?hd (cs := #[.slice A1_0 l1_0.length c1_0, .slice A1_1 l1_1.length c1_1]) (t := 33) ?hr ?_; (case hd => rfl); (case hg => rfl); (case hr => first | (go_simp; done) | (go_simp; rfl)); intro gb102 hg w4 hbox hb; have n0_ := Aside0.mk (blk_below (g := gb101) (o := .cells #[.slice A0_0 l0_0.length c0_0, .slice A0_1 l0_1.length c0_1] 33 (0, 0)) (by (with_reducible repeat (first | refine blk_drewN ?_ _ | refine blk_drew ?_ | refine blk_alloc ?_ _)); exact BK101.out) hb); have n1_ := Aside0.mk (below_step (by repeat (first | (with_reducible first | exact HB.out | apply below_alloc | apply pw_below_drewN | apply below_drew1 | refine below_set ?_ GE101.out) | exact HB.out)) hb); have n2_ := Aside0.mk (hbox); have n3_ := Aside0.mk ((by rw [hg]; exact (below_size (by repeat (first | (with_reducible first | exact HB.out | apply below_alloc | apply pw_below_drewN | apply below_drew1 | refine below_set ?_ GE101.out) | exact HB.out))) : w.heap.size ≤ gb102)); have n4_ := Aside0.mk ((by rw [hg]; exact (below_size (by repeat (first | (with_reducible first | exact HB.out | apply below_alloc | apply pw_below_drewN | apply below_drew1 | refine below_set ?_ GE101.out) | exact HB.out))) : w.heap.size ≤ gb102)); have n5_ := Aside0.mk ((by rw [hg]; exact Nat.ne_of_lt (blk_lt (g := gb101) (o := .cells #[.slice A0_0 l0_0.length c0_0, .slice A0_1 l0_1.length c0_1] 33 (0, 0)) (by (with_reducible repeat (first | refine blk_drewN ?_ _ | refine blk_drew ?_ | refine blk_alloc ?_ _)); exact BK101.out)) : gb101 ≠ gb102)); have n6_ := Aside0.mk ((by rw [hg]; exact Nat.ne_of_gt (blk_lt (g := gb101) (o := .cells #[.slice A0_0 l0_0.length c0_0, .slice A0_1 l0_1.length c0_1] 33 (0, 0)) (by (with_reducible repeat (first | refine blk_drewN ?_ _ | refine blk_drew ?_ | refine blk_alloc ?_ _)); exact BK101.out)) : gb102 ≠ gb101)); clear BK101; clear HB; have BK101 := n0_; have HB := n1_; have BK102 := n2_; have GW102 := n3_; have GE102 := n4_; have NB101_102 := n5_; have NB102_101 := n6_; clear n0_ n1_ n2_ n3_ n4_ n5_ n6_; clear hb hbox hg; have hnb5 := NB101_102.out; have hnc5 := NB102_101.out; have hcz6_0 : w4.cell? ⟨gb101, 0, none⟩ = some (.slice A0_0 l0_0.length c0_0) := (blk_cell BK101.out 0).trans rfl; have hcz6_1 : w4.cell? ⟨gb101, 1, none⟩ = some (.slice A0_1 l0_1.length c0_1) := (blk_cell BK101.out 1).trans rfl; have hfz6_0 := blk_frozen BK101.out 0; have hfz6_1 := blk_frozen BK101.out 1))
 go_loopg [10] k (fun kq v10 w' => ∃ (x10_1 : Int), v10 = .int .i64 x10_1 ∧ Aside0 (spec_veSame.l0 kq l0_1 (l0_1.length : Int) x10_1 l1_0 l1_1 = some r) ∧ Aside0 (kq ≤ k) ∧ Aside0 (w'.heap[gb101]? = some (.cells #[(.slice A0_0 l0_0.length c0_0), (.slice A0_1 l0_1.length c0_1)] 33 (0, 0))) ∧ Aside0 (w'.heap[gb102]? = some (.cells #[(.slice A1_0 l1_0.length c1_0), (.slice A1_1 l1_1.length c1_1)] 33 (0, 0))) ∧ Aside0 (Below w.heap.size w w'))
 case atStart => exact ⟨(0), (by first | rfl | (simp; done) | (simp [*]; done)), H', ⟨Nat.le_refl _⟩, ⟨by (with_reducible repeat (first | refine blk_drewN ?_ _ | refine blk_drew ?_ | refine blk_alloc ?_ _)); exact BK101.out⟩, ⟨by (with_reducible repeat (first | refine blk_drewN ?_ _ | refine blk_drew ?_ | refine blk_alloc ?_ _)); exact BK102.out⟩, ⟨by repeat (first | (with_reducible first | exact HB.out | apply below_alloc | apply pw_below_drewN | apply below_drew1 | refine below_set ?_ GE101.out | refine below_set ?_ GE102.out) | exact HB.out)⟩⟩
 case round =>
  clear H'
  try clear c1
  try clear p2
  try clear c5
  try clear hcz6_0
  try clear hcz6_1
  try clear hfz6_0
  try clear hfz6_1
  obtain ⟨x10_1, rfl, HA, HK1, BK101, BK102, HB⟩ := hrel
  cases gk with
  | zero => exact absurd HA.out (by simp [spec_veSame.l0])
  | succ k1 =>
    have H := HA.out
    clear HA
    simp only [spec_veSame.l0] at H
    by_cases c7 : x10_1 < (l0_1.length : Int)
    · rw [if_pos c7] at H
      have c7b0 : decide (x10_1 < (l0_1.length : Int)) = true := decide_eq_true c7
      clear c7
      by_cases c8 : 0 ≤ x10_1
      · rw [if_pos c8] at H
        have c8b0 : decide (0 ≤ x10_1) = true := decide_eq_true c8
        clear c8
        by_cases c9 : x10_1 < (l0_1.length : Int)
        · rw [if_pos c9] at H
          have c9b0 : decide (x10_1 < (l0_1.length : Int)) = true := decide_eq_true c9
          clear c9
          by_cases c10 : x10_1 < (l1_1.length : Int)
          · rw [if_pos c10] at H
            have c10b0 : decide (x10_1 < (l1_1.length : Int)) = true := decide_eq_true c10
            clear c10
            by_cases c11 : (rd l0_1 x10_1) = (rd l1_1 x10_1)
            · rw [if_pos c11] at H
              have c11b0 : ((rd l0_1 x10_1) == (rd l1_1 x10_1)) = true := beq_iff_eq.mpr c11
              have c11b1 : ((rd l0_1 x10_1) != (rd l1_1 x10_1)) = false := bne_eq_false_iff_eq.mpr c11
              clear c11
              have H' := Aside0.mk H
              clear H
              have p103 : 0 ≤ (x10_1 : Int) := of_decide_eq_true (by first | (with_reducible assumption) | assumption)
              have q103 : x10_1 < (l0_1.length : Int) := of_decide_eq_true (by first | (with_reducible assumption) | assumption)
              obtain ⟨ad103, e103, hx103_0⟩ := Kd.at_int HR0_1.out x10_1 p103 q103
              cases e103
              replace hx103_0 := (HB.out.cell (World.block_lt_of_cell? w _ hx103_0)).trans hx103_0
              replace p103 := eq_true p103
              replace q103 := eq_true q103
              have hnb12 := NB102_101.out
              have hnc12 := NB101_102.out
              have hcz13_0 : wr.cell? ⟨gb102, 0, none⟩ = some (.slice A1_0 l1_0.length c1_0) := (blk_cell BK102.out 0).trans rfl
              have hcz13_1 : wr.cell? ⟨gb102, 1, none⟩ = some (.slice A1_1 l1_1.length c1_1) := (blk_cell BK102.out 1).trans rfl
              have hfz13_0 := blk_frozen BK102.out 0
              have hfz13_1 := blk_frozen BK102.out 1
              have p104 : 0 ≤ (x10_1 : Int) := of_decide_eq_true (by first | (with_reducible assumption) | assumption)
              have q104 : x10_1 < (l1_1.length : Int) := of_decide_eq_true (by first | (with_reducible assumption) | assumption)
              obtain ⟨ad104, e104, hx104_0⟩ := Kd.at_int HR1_1.out x10_1 p104 q104
              cases e104
              replace hx104_0 := (HB.out.cell (World.block_lt_of_cell? w _ hx104_0)).trans hx104_0
              replace p104 := eq_true p104
              replace q104 := eq_true q104
              go_wp2
              go_roundg k1
              case measure => have := HK1.out; omega
              case rel => exact ⟨(wrap64 (x10_1 + 1)), (by first | rfl | (simp; done) | (simp [*]; done)), H', ⟨by have := HK1.out; omega⟩, ⟨by (with_reducible repeat (first | refine blk_drewN ?_ _ | refine blk_drew ?_ | refine blk_alloc ?_ _)); exact BK101.out⟩, ⟨by (with_reducible repeat (first | refine blk_drewN ?_ _ | refine blk_drew ?_ | refine blk_alloc ?_ _)); exact BK102.out⟩, ⟨by repeat (first | (with_reducible first | exact HB.out | apply below_alloc | apply pw_below_drewN | apply below_drew1 | refine below_set ?_ GE101.out | refine below_set ?_ GE102.out) | exact HB.out)⟩⟩
            · rw [if_neg c11] at H
              have c11b0 : ((rd l0_1 x10_1) == (rd l1_1 x10_1)) = false := beq_eq_false_iff_ne.mpr c11
              have c11b1 : ((rd l0_1 x10_1) != (rd l1_1 x10_1)) = true := bne_iff_ne.mpr c11
              obtain rfl := Option.some.inj H
              have p103 : 0 ≤ (x10_1 : Int) := of_decide_eq_true (by first | (with_reducible assumption) | assumption)
              have q103 : x10_1 < (l0_1.length : Int) := of_decide_eq_true (by first | (with_reducible assumption) | assumption)
              obtain ⟨ad103, e103, hx103_0⟩ := Kd.at_int HR0_1.out x10_1 p103 q103
              cases e103
              replace hx103_0 := (HB.out.cell (World.block_lt_of_cell? w _ hx103_0)).trans hx103_0
              replace p103 := eq_true p103
              replace q103 := eq_true q103
              have hnb14 := NB102_101.out
              have hnc14 := NB101_102.out
              have hcz15_0 : wr.cell? ⟨gb102, 0, none⟩ = some (.slice A1_0 l1_0.length c1_0) := (blk_cell BK102.out 0).trans rfl
              have hcz15_1 : wr.cell? ⟨gb102, 1, none⟩ = some (.slice A1_1 l1_1.length c1_1) := (blk_cell BK102.out 1).trans rfl
              have hfz15_0 := blk_frozen BK102.out 0
              have hfz15_1 := blk_frozen BK102.out 1
              have p104 : 0 ≤ (x10_1 : Int) := of_decide_eq_true (by first | (with_reducible assumption) | assumption)
              have q104 : x10_1 < (l1_1.length : Int) := of_decide_eq_true (by first | (with_reducible assumption) | assumption)
              obtain ⟨ad104, e104, hx104_0⟩ := Kd.at_int HR1_1.out x10_1 p104 q104
              cases e104
              replace hx104_0 := (HB.out.cell (World.block_lt_of_cell? w _ hx104_0)).trans hx104_0
              replace p104 := eq_true p104
              replace q104 := eq_true q104
              go_wp2
              go_ret
              exact ⟨by first | rfl | (simp [errW_none, errW_some] <;> rfl) | (simp [*, errW_none, errW_some] <;> rfl), by repeat (first | (with_reducible first | exact HB.out | apply below_alloc | apply pw_below_drewN | apply below_drew1 | refine below_set ?_ GE101.out | refine below_set ?_ GE102.out) | exact HB.out)⟩
          · rw [if_neg c10] at H
            exact absurd H (by simp)
        · rw [if_neg c9] at H
          exact absurd H (by simp)
      · rw [if_neg c8] at H
        exact absurd H (by simp)
    · rw [if_neg c7] at H
      have c7b0 : decide (x10_1 < (l0_1.length : Int)) = false := decide_eq_false c7
      clear c7
      obtain rfl := Option.some.inj H
      go_wp2
      go_ret
      exact ⟨by first | rfl | (simp [errW_none, errW_some] <;> rfl) | (simp [*, errW_none, errW_some] <;> rfl), by repeat (first | (with_reducible first | exact HB.out | apply below_alloc | apply pw_below_drewN | apply below_drew1 | refine below_set ?_ GE101.out | refine below_set ?_ GE102.out) | exact HB.out)⟩

end Go.Proofs.Ytjllbahhkeglfaa.P
namespace Go.Proofs.Ytjllbahhkeglfaa.P
open Go.RowKit Go.Proofs.YtjllbahhkeglfaaW.PrintWords Go.Proofs.YtjllbahhkeglfaaW.PrintLast Go.Proofs.YtjllbahhkeglfaaW.PrintMore
attribute [local go_sem] max2_int min2_int max_two min_two max_three min_three max_four min_four
set_option linter.unusedVariables false
set_option linter.unusedSimpArgs false

/-! ### spec_l1Has: function 88 -/
def spec_l1Has.l0 : Nat → Int → List Int → Int → Int → Option (Bool)
 | 0, _, _, _, _ => none
 | k + 1, x1, x7, x8, x9 => if x9 < x8 then (if 0 ≤ x9 then (if x9 < (x7.length : Int) then (if (rd x7 x9) = x1 then (some true) else (spec_l1Has.l0 k x1 x7 x8 (wrap64 (x9 + 1)))) else (none)) else (none)) else (some false)
def spec_l1Has.f (k : Nat) (l0 : List Int) (a1 : Int) : Option (Bool) := spec_l1Has.l0 k a1 l0 (l0.length : Int) 0
theorem spec_l1Has.mono_l : ∀ k, (∀ y0 y1 y2 y3, LeO (spec_l1Has.l0 k y0 y1 y2 y3) (spec_l1Has.l0 (k + 1) y0 y1 y2 y3))
 | 0 => fun _ _ _ _ r h => by simp [spec_l1Has.l0] at h
 | k + 1 => by
   have ih0 := spec_l1Has.mono_l k
   · intro y0 y1 y2 y3
     unfold spec_l1Has.l0
     repeat' first
     | (with_reducible exact ih0 _ _ _ _)
     | (with_reducible exact LeO.refl _)
     | (with_reducible exact LeO.none _)
     | (with_reducible refine LeO.ite ?_ ?_)
     | (with_reducible refine LeO.bind ?_ (fun _ => ?_))
     | exact ih0 _ _ _ _
     | exact LeO.none _
     | refine LeO.ite ?_ ?_
     | refine LeO.bind ?_ (fun _ => ?_)
theorem spec_l1Has.mono : ∀ a0 a1 k, LeO (spec_l1Has.f k a0 a1) (spec_l1Has.f (k + 1) a0 a1) := by
 intro a0 a1 k
 have ih0 := spec_l1Has.mono_l k
 unfold spec_l1Has.f
 repeat' first
  | (with_reducible exact ih0 _ _ _ _)
  | (with_reducible exact LeO.refl _)
  | (with_reducible exact LeO.none _)
  | (with_reducible refine LeO.ite ?_ ?_)
  | (with_reducible refine LeO.bind ?_ (fun _ => ?_))
  | exact ih0 _ _ _ _
  | exact LeO.none _
  | refine LeO.ite ?_ ?_
  | refine LeO.bind ?_ (fun _ => ?_)
set_option maxHeartbeats 8000000 in
set_option maxRecDepth 100000 in
theorem spec_l1Has.calls (k : Nat) (A0 : Option Addr) (c0 : Nat) (l0 : List Int) (a1 : Int) (r : Bool) (w : World) (hr0 : Kd.C (Kd.int .i64) w A0 l0.length l0) (hc0 : l0.length ≤ c0) (h : spec_l1Has.f k l0 a1 = some r) :
 Calls Try.prog 88 #[.slice A0 l0.length c0, .int .i64 a1] w fun e w' => e = .returned (.bool r) ∧ Drawn0 w w' := by
 have HR0 := Aside0.mk hr0
 have HC0 := Aside0.mk hc0
 clear hr0 hc0
 have H : (spec_l1Has.l0 k a1 l0 (l0.length : Int) 0) = some r := h
 clear h
 have H' := Aside0.mk H
 clear H
 go_enter Try.func88, Try.ntmps88
 go_wp2
 go_loopg [9] k (fun kq v9 w' => ∃ (x9_1 : Int), v9 = .int .i64 x9_1 ∧ Aside0 (spec_l1Has.l0 kq a1 l0 (l0.length : Int) x9_1 = some r) ∧ Aside0 (kq ≤ k) ∧ Drawn0 w w')
 case atStart => exact ⟨(0), (by first | rfl | (simp; done) | (simp [*]; done)), H', ⟨Nat.le_refl _⟩, by repeat (first | exact Drawn0.refl _ | apply Drawn0.step)⟩
 case round =>
  clear H'
  try clear p2
  obtain ⟨x9_1, rfl, HA, HK1, ⟨m1, rfl⟩⟩ := hrel
  cases gk with
  | zero => exact absurd HA.out (by simp [spec_l1Has.l0])
  | succ k1 =>
    have H := HA.out
    clear HA
    simp only [spec_l1Has.l0] at H
    by_cases c3 : x9_1 < (l0.length : Int)
    · rw [if_pos c3] at H
      have c3b0 : decide (x9_1 < (l0.length : Int)) = true := decide_eq_true c3
      clear c3
      by_cases c4 : 0 ≤ x9_1
      · rw [if_pos c4] at H
        have c4b0 : decide (0 ≤ x9_1) = true := decide_eq_true c4
        clear c4
        by_cases c5 : x9_1 < (l0.length : Int)
        · rw [if_pos c5] at H
          have c5b0 : decide (x9_1 < (l0.length : Int)) = true := decide_eq_true c5
          clear c5
          by_cases c6 : (rd l0 x9_1) = a1
          · rw [if_pos c6] at H
            have c6b0 : ((rd l0 x9_1) == a1) = true := beq_iff_eq.mpr c6
            have c6b1 : ((rd l0 x9_1) != a1) = false := bne_eq_false_iff_eq.mpr c6
            clear c6
            obtain rfl := Option.some.inj H
            have p101 : 0 ≤ (x9_1 : Int) := of_decide_eq_true (by first | (with_reducible assumption) | assumption)
            have q101 : x9_1 < (l0.length : Int) := of_decide_eq_true (by first | (with_reducible assumption) | assumption)
            obtain ⟨ad101, e101, hx101_0⟩ := Kd.at_int HR0.out x9_1 p101 q101
            cases e101
            replace p101 := eq_true p101
            replace q101 := eq_true q101
            go_wp2
            go_ret
            exact ⟨by first | rfl | (simp; done) | (simp [*]; done), by repeat (first | exact Drawn0.refl _ | apply Drawn0.step)⟩
          · rw [if_neg c6] at H
            have c6b0 : ((rd l0 x9_1) == a1) = false := beq_eq_false_iff_ne.mpr c6
            have c6b1 : ((rd l0 x9_1) != a1) = true := bne_iff_ne.mpr c6
            have H' := Aside0.mk H
            clear H
            have p101 : 0 ≤ (x9_1 : Int) := of_decide_eq_true (by first | (with_reducible assumption) | assumption)
            have q101 : x9_1 < (l0.length : Int) := of_decide_eq_true (by first | (with_reducible assumption) | assumption)
            obtain ⟨ad101, e101, hx101_0⟩ := Kd.at_int HR0.out x9_1 p101 q101
            cases e101
            replace p101 := eq_true p101
            replace q101 := eq_true q101
            go_wp2
            go_roundg k1
            case measure => have := HK1.out; omega
            case rel => exact ⟨(wrap64 (x9_1 + 1)), (by first | rfl | (simp; done) | (simp [*]; done)), H', ⟨by have := HK1.out; omega⟩, by repeat (first | exact Drawn0.refl _ | apply Drawn0.step)⟩
        · rw [if_neg c5] at H
          exact absurd H (by simp)
      · rw [if_neg c4] at H
        exact absurd H (by simp)
    · rw [if_neg c3] at H
      have c3b0 : decide (x9_1 < (l0.length : Int)) = false := decide_eq_false c3
      clear c3
      obtain rfl := Option.some.inj H
      go_wp2
      go_ret
      exact ⟨by first | rfl | (simp; done) | (simp [*]; done), by repeat (first | exact Drawn0.refl _ | apply Drawn0.step)⟩

end Go.Proofs.Ytjllbahhkeglfaa.P
namespace Go.Proofs.Ytjllbahhkeglfaa.P
open Go.RowKit Go.Proofs.YtjllbahhkeglfaaW.PrintWords Go.Proofs.YtjllbahhkeglfaaW.PrintLast Go.Proofs.YtjllbahhkeglfaaW.PrintMore
attribute [local go_sem] max2_int min2_int max_two min_two max_three min_three max_four min_four
set_option linter.unusedVariables false
set_option linter.unusedSimpArgs false

/-! ### slices_Index_int_int: function 165 -/
def slices_Index_int_int.l0 : Nat → List Int → Int → Int → Int → Option (Int)
 | 0, _, _, _, _ => none
 | k + 1, x0, x1, x7, x8 => if x8 < x7 then (if 0 ≤ x8 then (if x8 < (x0.length : Int) then (if x1 = (rd x0 x8) then (some x8) else (slices_Index_int_int.l0 k x0 x1 x7 (wrap64 (x8 + 1)))) else (none)) else (none)) else (some (-1))
def slices_Index_int_int.f (k : Nat) (l0 : List Int) (a1 : Int) : Option (Int) := slices_Index_int_int.l0 k l0 a1 (l0.length : Int) 0
theorem slices_Index_int_int.mono_l : ∀ k, (∀ y0 y1 y2 y3, LeO (slices_Index_int_int.l0 k y0 y1 y2 y3) (slices_Index_int_int.l0 (k + 1) y0 y1 y2 y3))
 | 0 => fun _ _ _ _ r h => by simp [slices_Index_int_int.l0] at h
 | k + 1 => by
   have ih0 := slices_Index_int_int.mono_l k
   · intro y0 y1 y2 y3
     unfold slices_Index_int_int.l0
     repeat' first
     | (with_reducible exact ih0 _ _ _ _)
     | (with_reducible exact LeO.refl _)
     | (with_reducible exact LeO.none _)
     | (with_reducible refine LeO.ite ?_ ?_)
     | (with_reducible refine LeO.bind ?_ (fun _ => ?_))
     | exact ih0 _ _ _ _
     | exact LeO.none _
     | refine LeO.ite ?_ ?_
     | refine LeO.bind ?_ (fun _ => ?_)
theorem slices_Index_int_int.mono : ∀ a0 a1 k, LeO (slices_Index_int_int.f k a0 a1) (slices_Index_int_int.f (k + 1) a0 a1) := by
 intro a0 a1 k
 have ih0 := slices_Index_int_int.mono_l k
 unfold slices_Index_int_int.f
 repeat' first
  | (with_reducible exact ih0 _ _ _ _)
  | (with_reducible exact LeO.refl _)
  | (with_reducible exact LeO.none _)
  | (with_reducible refine LeO.ite ?_ ?_)
  | (with_reducible refine LeO.bind ?_ (fun _ => ?_))
  | exact ih0 _ _ _ _
  | exact LeO.none _
  | refine LeO.ite ?_ ?_
  | refine LeO.bind ?_ (fun _ => ?_)
set_option maxHeartbeats 8000000 in
set_option maxRecDepth 100000 in
theorem slices_Index_int_int.calls (k : Nat) (A0 : Option Addr) (c0 : Nat) (l0 : List Int) (a1 : Int) (r : Int) (w : World) (hr0 : Kd.C (Kd.int .i64) w A0 l0.length l0) (hc0 : l0.length ≤ c0) (h : slices_Index_int_int.f k l0 a1 = some r) :
 Calls Try.prog 165 #[.slice A0 l0.length c0, .int .i64 a1] w fun e w' => e = .returned (.int .i64 r) ∧ Drawn0 w w' := by
 have HR0 := Aside0.mk hr0
 have HC0 := Aside0.mk hc0
 clear hr0 hc0
 have H : (slices_Index_int_int.l0 k l0 a1 (l0.length : Int) 0) = some r := h
 clear h
 have H' := Aside0.mk H
 clear H
 go_enter Try.func165, Try.ntmps165
 go_wp2
 go_loopg [8] k (fun kq v8 w' => ∃ (x8_1 : Int), v8 = .int .i64 x8_1 ∧ Aside0 (slices_Index_int_int.l0 kq l0 a1 (l0.length : Int) x8_1 = some r) ∧ Aside0 (kq ≤ k) ∧ Drawn0 w w')
 case atStart => exact ⟨(0), (by first | rfl | (simp; done) | (simp [*]; done)), H', ⟨Nat.le_refl _⟩, by repeat (first | exact Drawn0.refl _ | apply Drawn0.step)⟩
 case round =>
  clear H'
  try clear c1
  try clear p2
  obtain ⟨x8_1, rfl, HA, HK1, ⟨m1, rfl⟩⟩ := hrel
  cases gk with
  | zero => exact absurd HA.out (by simp [slices_Index_int_int.l0])
  | succ k1 =>
    have H := HA.out
    clear HA
    simp only [slices_Index_int_int.l0] at H
    by_cases c3 : x8_1 < (l0.length : Int)
    · rw [if_pos c3] at H
      have c3b0 : decide (x8_1 < (l0.length : Int)) = true := decide_eq_true c3
      clear c3
      by_cases c4 : 0 ≤ x8_1
      · rw [if_pos c4] at H
        have c4b0 : decide (0 ≤ x8_1) = true := decide_eq_true c4
        clear c4
        by_cases c5 : x8_1 < (l0.length : Int)
        · rw [if_pos c5] at H
          have c5b0 : decide (x8_1 < (l0.length : Int)) = true := decide_eq_true c5
          clear c5
          by_cases c6 : a1 = (rd l0 x8_1)
          · rw [if_pos c6] at H
            have c6b0 : (a1 == (rd l0 x8_1)) = true := beq_iff_eq.mpr c6
            have c6b1 : (a1 != (rd l0 x8_1)) = false := bne_eq_false_iff_eq.mpr c6
            clear c6
            obtain rfl := Option.some.inj H
            have p101 : 0 ≤ (x8_1 : Int) := of_decide_eq_true (by first | (with_reducible assumption) | assumption)
            have q101 : x8_1 < (l0.length : Int) := of_decide_eq_true (by first | (with_reducible assumption) | assumption)
            obtain ⟨ad101, e101, hx101_0⟩ := Kd.at_int HR0.out x8_1 p101 q101
            cases e101
            replace p101 := eq_true p101
            replace q101 := eq_true q101
            go_wp2
            go_ret
            exact ⟨by first | rfl | (simp; done) | (simp [*]; done), by repeat (first | exact Drawn0.refl _ | apply Drawn0.step)⟩
          · rw [if_neg c6] at H
            have c6b0 : (a1 == (rd l0 x8_1)) = false := beq_eq_false_iff_ne.mpr c6
            have c6b1 : (a1 != (rd l0 x8_1)) = true := bne_iff_ne.mpr c6
            have H' := Aside0.mk H
            clear H
            have p101 : 0 ≤ (x8_1 : Int) := of_decide_eq_true (by first | (with_reducible assumption) | assumption)
            have q101 : x8_1 < (l0.length : Int) := of_decide_eq_true (by first | (with_reducible assumption) | assumption)
            obtain ⟨ad101, e101, hx101_0⟩ := Kd.at_int HR0.out x8_1 p101 q101
            cases e101
            replace p101 := eq_true p101
            replace q101 := eq_true q101
            go_wp2
            go_roundg k1
            case measure => have := HK1.out; omega
            case rel => exact ⟨(wrap64 (x8_1 + 1)), (by first | rfl | (simp; done) | (simp [*]; done)), H', ⟨by have := HK1.out; omega⟩, by repeat (first | exact Drawn0.refl _ | apply Drawn0.step)⟩
        · rw [if_neg c5] at H
          exact absurd H (by simp)
      · rw [if_neg c4] at H
        exact absurd H (by simp)
    · rw [if_neg c3] at H
      have c3b0 : decide (x8_1 < (l0.length : Int)) = false := decide_eq_false c3
      clear c3
      obtain rfl := Option.some.inj H
      go_wp2
      go_ret
      exact ⟨by first | rfl | (simp; done) | (simp [*]; done), by repeat (first | exact Drawn0.refl _ | apply Drawn0.step)⟩

end Go.Proofs.Ytjllbahhkeglfaa.P
namespace Go.Proofs.Ytjllbahhkeglfaa.P
open Go.RowKit Go.Proofs.YtjllbahhkeglfaaW.PrintWords Go.Proofs.YtjllbahhkeglfaaW.PrintLast Go.Proofs.YtjllbahhkeglfaaW.PrintMore
attribute [local go_sem] max2_int min2_int max_two min_two max_three min_three max_four min_four
set_option linter.unusedVariables false
set_option linter.unusedSimpArgs false

/-! ### slices_Contains_int_int: function 143 -/
def slices_Contains_int_int.f (k : Nat) (l0 : List Int) (a1 : Int) : Option (Bool) := (slices_Index_int_int.f k l0 a1).bind fun t101 => (some (decide (t101 ≥ 0)))
theorem slices_Contains_int_int.mono : ∀ a0 a1 k, LeO (slices_Contains_int_int.f k a0 a1) (slices_Contains_int_int.f (k + 1) a0 a1) := by
 intro a0 a1 k
 unfold slices_Contains_int_int.f
 repeat' first
  | (with_reducible exact slices_Index_int_int.mono _ _ _)
  | (with_reducible exact LeO.refl _)
  | (with_reducible exact LeO.none _)
  | (with_reducible refine LeO.ite ?_ ?_)
  | (with_reducible refine LeO.bind ?_ (fun _ => ?_))
  | exact slices_Index_int_int.mono _ _ _
  | exact LeO.none _
  | refine LeO.ite ?_ ?_
  | refine LeO.bind ?_ (fun _ => ?_)
set_option maxHeartbeats 8000000 in
set_option maxRecDepth 100000 in
theorem slices_Contains_int_int.calls (k : Nat) (A0 : Option Addr) (c0 : Nat) (l0 : List Int) (a1 : Int) (r : Bool) (w : World) (hr0 : Kd.C (Kd.int .i64) w A0 l0.length l0) (hc0 : l0.length ≤ c0) (h : slices_Contains_int_int.f k l0 a1 = some r) :
 Calls Try.prog 143 #[.slice A0 l0.length c0, .int .i64 a1] w fun e w' => e = .returned (.bool r) ∧ Drawn0 w w' := by
 have HR0 := Aside0.mk hr0
 have HC0 := Aside0.mk hc0
 clear hr0 hc0
 have H : ((slices_Index_int_int.f k l0 a1).bind fun t101 => (some (decide (t101 ≥ 0)))) = some r := h
 clear h
 replace H := Option.bind_eq_some_iff.mp H
 obtain ⟨t101, A30, H⟩ := H
 replace H : (some (decide (t101 ≥ 0))) = some r := H
 have A3 := Aside0.mk A30
 clear A30
 obtain rfl := Option.some.inj H
 go_enter Try.func143, Try.ntmps143
 go_wp2_with (first | ((with_reducible refine gate_callee (f := 165) rfl ?_); refine goesL_ (some 7) rfl rfl Try.func165 (by kernel_rfl) rfl #[.slice A0 l0.length c0, .int .i64 a1] rfl (by (try simp only [List.map_toArray, List.map_cons, List.map_nil]); first | done | rfl | (simp only [List.length_drop, List.length_take]; rfl)) ?_; (with_reducible refine (slices_Index_int_int.calls k _ _ l0 a1 t101 _ ?side1 ?side2 A3.out).mono ?_); (case side1 => repeat (first | exact HR0.out | (with_reducible refine Kd.C_alloc ?_ _) | (with_reducible refine Kd.C_drewN ?_ _) | (with_reducible refine Kd.C_drew ?_))); (case side2 => exact HC0.out); rintro e w' ⟨rfl, ⟨nd, rfl⟩⟩; refine ⟨_, rfl, ?_⟩))
 go_ret
 exact ⟨by first | rfl | (simp; done) | (simp [*]; done), by repeat (first | exact Drawn0.refl _ | apply Drawn0.step)⟩

end Go.Proofs.Ytjllbahhkeglfaa.P
namespace Go.Proofs.Ytjllbahhkeglfaa.P
open Go.RowKit Go.Proofs.YtjllbahhkeglfaaW.PrintWords Go.Proofs.YtjllbahhkeglfaaW.PrintLast Go.Proofs.YtjllbahhkeglfaaW.PrintMore
attribute [local go_sem] max2_int min2_int max_two min_two max_three min_three max_four min_four
set_option linter.unusedVariables false
set_option linter.unusedSimpArgs false

/-! ### impl_measures: function 95 -/
def impl_measures.f (k : Nat) (l0_0 : List Int) (l0_1 : List Int) (a1 : Int) : Option (Bool) := (slices_Contains_int_int.f k l0_1 a1).bind fun t102 => (some t102)
theorem impl_measures.mono : ∀ a0 a1 a2 k, LeO (impl_measures.f k a0 a1 a2) (impl_measures.f (k + 1) a0 a1 a2) := by
 intro a0 a1 a2 k
 unfold impl_measures.f
 repeat' first
  | (with_reducible exact slices_Contains_int_int.mono _ _ _)
  | (with_reducible exact LeO.refl _)
  | (with_reducible exact LeO.none _)
  | (with_reducible refine LeO.ite ?_ ?_)
  | (with_reducible refine LeO.bind ?_ (fun _ => ?_))
  | exact slices_Contains_int_int.mono _ _ _
  | exact LeO.none _
  | refine LeO.ite ?_ ?_
  | refine LeO.bind ?_ (fun _ => ?_)
set_option maxHeartbeats 8000000 in
set_option maxRecDepth 100000 in
theorem impl_measures.calls (k : Nat) (A0_0 : Option Addr) (c0_0 : Nat) (l0_0 : List Int) (A0_1 : Option Addr) (c0_1 : Nat) (l0_1 : List Int) (a1 : Int) (r : Bool) (w : World) (hr0_0 : Kd.C (Kd.int .i64) w A0_0 l0_0.length l0_0) (hc0_0 : l0_0.length ≤ c0_0) (hr0_1 : Kd.C (Kd.int .i64) w A0_1 l0_1.length l0_1) (hc0_1 : l0_1.length ≤ c0_1) (h : impl_measures.f k l0_0 l0_1 a1 = some r) :
 Calls Try.prog 95 #[.agg #[.slice A0_0 l0_0.length c0_0, .slice A0_1 l0_1.length c0_1], .int .i64 a1] w fun e w' => e = .returned (.bool r) ∧ Below w.heap.size w w' := by
 have hu33 := Try.underlying33
 have HR0_0 := Aside0.mk hr0_0
 have HC0_0 := Aside0.mk hc0_0
 clear hr0_0 hc0_0
 have HR0_1 := Aside0.mk hr0_1
 have HC0_1 := Aside0.mk hc0_1
 clear hr0_1 hc0_1
 have HB := Aside0.mk (Below.refl w.heap.size w)
 have H : ((slices_Contains_int_int.f k l0_1 a1).bind fun t102 => (some t102)) = some r := h
 clear h
 replace H := Option.bind_eq_some_iff.mp H
 obtain ⟨t102, A30, H⟩ := H
 replace H : (some t102) = some r := H
 have A3 := Aside0.mk A30
 clear A30
 obtain rfl := Option.some.inj H
 go_enter Try.func95, Try.ntmps95
 go_wp2_with (first | ((with_reducible refine gate_dst (N := 2) rfl ?_); refine box_event ?hg (N := 2) ?hd (cs := #[.slice A0_0 l0_0.length c0_0, .slice A0_1 l0_1.length c0_1]) (t := 33) ?hr ?_; (case hd => rfl); (case hg => rfl); (case hr => first | (go_simp; done) | (go_simp; rfl)); intro gb101 hg w4 hbox hb; have n0_ := Aside0.mk (below_step (by repeat (first | (with_reducible first | exact HB.out | apply below_alloc | apply pw_below_drewN | apply below_drew1) | exact HB.out)) hb); have n1_ := Aside0.mk (hbox); have n2_ := Aside0.mk ((by rw [hg]; exact (below_size (by repeat (first | (with_reducible first | exact HB.out | apply below_alloc | apply pw_below_drewN | apply below_drew1) | exact HB.out))) : w.heap.size ≤ gb101)); have n3_ := Aside0.mk ((by rw [hg]; exact (below_size (by repeat (first | (with_reducible first | exact HB.out | apply below_alloc | apply pw_below_drewN | apply below_drew1) | exact HB.out))) : w.heap.size ≤ gb101)); clear HB; have HB := n0_; have BK101 := n1_; have GW101 := n2_; have GE101 := n3_; clear n0_ n1_ n2_ n3_; clear hb hbox hg; have hcz5_0 : w4.cell? ⟨gb101, 0, none⟩ = some (.slice A0_0 l0_0.length c0_0) := (blk_cell BK101.out 0).trans rfl; have hcz5_1 : w4.cell? ⟨gb101, 1, none⟩ = some (.slice A0_1 l0_1.length c0_1) := (blk_cell BK101.out 1).trans rfl; have hfz5_0 := blk_frozen BK101.out 0; have hfz5_1 := blk_frozen BK101.out 1) | ((with_reducible refine gate_callee (f := 143) rfl ?_); refine goesL_ (some 8) rfl rfl Try.func143 (by kernel_rfl) rfl #[.slice A0_1 l0_1.length c0_1, .int .i64 a1] rfl (by (try simp only [List.map_toArray, List.map_cons, List.map_nil]); first | done | rfl | (simp only [List.length_drop, List.length_take]; rfl)) ?_; (with_reducible refine (slices_Contains_int_int.calls k _ _ l0_1 a1 t102 _ ?side1 ?side2 A3.out).mono ?_); (case side1 => repeat (first | exact (Kd.C_below HR0_1.out HB.out) | (with_reducible refine Kd.C_alloc ?_ _) | (with_reducible refine Kd.C_drewN ?_ _) | (with_reducible refine Kd.C_drew ?_))); (case side2 => exact HC0_1.out); rintro e w' ⟨rfl, ⟨nd, rfl⟩⟩; refine ⟨_, rfl, ?_⟩))
 go_ret
 exact ⟨by first | rfl | (simp [errW_none, errW_some] <;> rfl) | (simp [*, errW_none, errW_some] <;> rfl), by repeat (first | (with_reducible first | exact HB.out | apply below_alloc | apply pw_below_drewN | apply below_drew1 | refine below_set ?_ GE101.out) | exact HB.out)⟩

end Go.Proofs.Ytjllbahhkeglfaa.P
namespace Go.Proofs.Ytjllbahhkeglfaa.P
open Go.RowKit Go.Proofs.YtjllbahhkeglfaaW.PrintWords Go.Proofs.YtjllbahhkeglfaaW.PrintLast Go.Proofs.YtjllbahhkeglfaaW.PrintMore
set_option linter.unusedVariables false
set_option linter.unusedSimpArgs false
theorem w64 {x : Int} (h1 : -9223372036854775808 ≤ x) (h2 : x ≤ 9223372036854775807) : wrap64 x = x := by unfold wrap64; omega
/-- Vessels that are right. -/
structure Good (s h : List Int) : Prop where
 n1 : 1 ≤ s.length
 n5 : s.length ≤ 5
 len : h.length = s.length
 s1 : ∀ i : Int, 0 ≤ i → i < s.length → 1 ≤ rd s i ∧ rd s i ≤ 60
 h0 : ∀ i : Int, 0 ≤ i → i < s.length → 0 ≤ rd h i ∧ rd h i ≤ rd s i
/-- What a move pours. -/
def amt (s h : List Int) (f t : Int) : Int := if f < 0 then rd s t - rd h t else if t < 0 then rd h f else mn (rd h f) (rd s t - rd h t)
/-- What is held behind a move. -/
def mv (h : List Int) (f t a : Int) : List Int :=
 let h1 := if f ≥ 0 then h.set f.toNat (rd h f - a) else h
 if t ≥ 0 then h1.set t.toNat (rd h1 t + a) else h1
def beh (s h : List Int) (f t : Int) : List Int := mv h f t (amt s h f t)
/-- A move of n vessels. -/
def isMv (n : Nat) (f t : Int) : Prop := -1 ≤ f ∧ f < n ∧ -1 ≤ t ∧ t < n ∧ f ≠ t
theorem rd_set_self {l : List Int} {i : Int} {x : Int} (h0 : 0 ≤ i) (h : i < l.length) : rd (l.set i.toNat x) i = x := by
 unfold rd
 rw [List.getD_eq_getElem?_getD, List.getElem?_set_self (by omega)]
 rfl
theorem rd_set_ne {l : List Int} {i j : Int} {x : Int} (h0 : 0 ≤ i) (hj : 0 ≤ j) (h : i ≠ j) : rd (l.set i.toNat x) j = rd l j := by
 unfold rd
 rw [List.getD_eq_getElem?_getD, List.getElem?_set_ne (by omega), ← List.getD_eq_getElem?_getD]
theorem amt_bd {s h : List Int} (G : Good s h) {f t : Int} (m : isMv s.length f t) : 0 ≤ amt s h f t ∧ amt s h f t ≤ 60 := by
 obtain ⟨a1, a2, a3, a4, a5⟩ := m
 unfold amt mn
 by_cases h1 : f < 0
 · rw [if_pos h1]
   have := G.s1 t (by omega) a4; have := G.h0 t (by omega) a4
   omega
 · rw [if_neg h1]
   have := G.s1 f (by omega) a2; have := G.h0 f (by omega) a2
   by_cases h2 : t < 0
   · rw [if_pos h2]; omega
   · rw [if_neg h2]
     have := G.s1 t (by omega) a4; have := G.h0 t (by omega) a4
     split <;> omega
theorem amt_to {s h : List Int} (G : Good s h) {f t : Int} (m : isMv s.length f t) (ht : 0 ≤ t) : amt s h f t ≤ rd s t - rd h t := by
 unfold amt mn
 obtain ⟨a1, a2, a3, a4, a5⟩ := m
 by_cases h1 : f < 0
 · rw [if_pos h1]; omega
 · rw [if_neg h1, if_neg (by omega)]; split <;> omega
theorem amt_from {s h : List Int} (G : Good s h) {f t : Int} (m : isMv s.length f t) (hf : 0 ≤ f) : amt s h f t ≤ rd h f := by
 unfold amt mn
 obtain ⟨a1, a2, a3, a4, a5⟩ := m
 rw [if_neg (by omega)]
 split
 · omega
 · split <;> omega
theorem mv_length (h : List Int) (f t a : Int) : (mv h f t a).length = h.length := by
 unfold mv
 simp only
 split <;> split <;> simp
theorem beh_good {s h : List Int} (G : Good s h) {f t : Int} (m : isMv s.length f t) : Good s (beh s h f t) := by
 have hb := amt_bd G m
 refine ⟨G.n1, G.n5, by unfold beh; rw [mv_length, G.len], G.s1, fun i i0 i1 => ?_⟩
 have hs := G.s1 i i0 i1
 have hh := G.h0 i i0 i1
 obtain ⟨a1, a2, a3, a4, a5⟩ := m
 have hl := G.len
 have key : rd (beh s h f t) i = rd h i + (if i = t then amt s h f t else 0) - (if i = f then amt s h f t else 0) := by
  unfold beh mv
  simp only
  by_cases hf : f ≥ 0 <;> by_cases ht : t ≥ 0
  · rw [if_pos hf, if_pos ht]
    by_cases e1 : i = t
    · subst e1
      rw [rd_set_self ht (by rw [List.length_set]; omega), rd_set_ne hf ht (by omega)]
      rw [if_pos rfl, if_neg (by omega)]; omega
    · rw [rd_set_ne ht i0 (by omega), if_neg e1]
      by_cases e2 : i = f
      · subst e2; rw [rd_set_self hf (by omega), if_pos rfl]; omega
      · rw [rd_set_ne hf i0 (by omega), if_neg e2]; omega
  · rw [if_pos hf, if_neg ht, if_neg (by omega)]
    by_cases e2 : i = f
    · subst e2; rw [rd_set_self hf (by omega), if_pos rfl]; omega
    · rw [rd_set_ne hf i0 (by omega), if_neg e2]; omega
  · rw [if_neg hf, if_pos ht]
    by_cases e1 : i = t
    · subst e1; rw [rd_set_self ht (by omega), if_pos rfl, if_neg (by omega)]; omega
    · rw [rd_set_ne ht i0 (by omega), if_neg e1, if_neg (by omega)]; omega
  · rw [if_neg hf, if_neg ht, if_neg (by omega), if_neg (by omega)]; omega
 rw [key]
 by_cases e1 : i = t
 · have h2 := amt_to G ⟨a1, a2, a3, a4, a5⟩ (by omega)
   subst e1
   rw [if_pos rfl, if_neg (by omega)]
   omega
 · rw [if_neg e1]
   by_cases e2 : i = f
   · have h2 := amt_from G ⟨a1, a2, a3, a4, a5⟩ (by omega)
     subst e2
     rw [if_pos rfl]
     omega
   · rw [if_neg e2]; omega
theorem impl_amount_eq {s h : List Int} (G : Good s h) {f t : Int} (m : isMv s.length f t) : impl_Vessels_amount.f s h f t = some (amt s h f t) := by
 obtain ⟨a1, a2, a3, a4, a5⟩ := m
 have hl := G.len
 unfold impl_Vessels_amount.f impl_Vessels_room.f amt
 by_cases h1 : f < 0
 · rw [if_pos h1, if_pos h1, if_pos (show (0 : Int) ≤ t by omega), if_pos a4, if_pos (by omega)]
   have := G.s1 t (by omega) a4; have := G.h0 t (by omega) a4
   rw [w64 (by omega) (by omega)]; rfl
 · rw [if_neg h1, if_neg h1]
   have := G.s1 f (by omega) a2; have := G.h0 f (by omega) a2
   by_cases h2 : t < 0
   · rw [if_pos h2, if_pos h2, if_pos (show (0 : Int) ≤ f by omega), if_pos (by omega)]
   · rw [if_neg h2, if_neg h2, if_pos (show (0 : Int) ≤ f by omega), if_pos (by omega), if_pos (show (0 : Int) ≤ t by omega), if_pos a4, if_pos (by omega)]
     have := G.s1 t (by omega) a4; have := G.h0 t (by omega) a4
     rw [w64 (by omega) (by omega)]; rfl
theorem spec_amount_eq {s h : List Int} (G : Good s h) {f t : Int} (m : isMv s.length f t) : spec_veAmount.f s h f t = some (amt s h f t) := by
 obtain ⟨a1, a2, a3, a4, a5⟩ := m
 have hl := G.len
 unfold spec_veAmount.f spec_l1Least.f amt
 by_cases h1 : f < 0
 · rw [if_pos h1, if_neg (by omega), if_pos (show t ≥ 0 by omega), if_pos (show (0 : Int) ≤ t by omega), if_pos a4, if_pos (by omega)]
   have := G.s1 t (by omega) a4; have := G.h0 t (by omega) a4
   rw [w64 (by omega) (by omega)]
   rw [if_neg (by omega)]; rfl
 · rw [if_neg h1, if_pos (show f ≥ 0 by omega), if_pos (show (0 : Int) ≤ f by omega), if_pos (by omega)]
   have := G.s1 f (by omega) a2; have := G.h0 f (by omega) a2
   by_cases h2 : t < 0
   · rw [if_pos h2, if_neg (by omega)]
   · rw [if_neg h2, if_pos (show t ≥ 0 by omega), if_pos (show (0 : Int) ≤ t by omega), if_pos a4, if_pos (by omega)]
     have := G.s1 t (by omega) a4; have := G.h0 t (by omega) a4
     rw [w64 (by omega) (by omega)]
     unfold mn
     by_cases h3 : rd h f < rd s t - rd h t
     · rw [if_pos h3, if_neg (by omega)]; rfl
     · rw [if_neg h3]
       by_cases h4 : rd s t - rd h t < rd h f
       · rw [if_pos h4]; rfl
       · rw [if_neg h4, show rd s t - rd h t = rd h f by omega]; rfl
theorem impl_behind_eq {s h : List Int} (G : Good s h) {f t : Int} (m : isMv s.length f t) : impl_Vessels_behind.f s h f t = some (s, beh s h f t) := by
 have ha := impl_amount_eq G m
 have hb := amt_bd G m
 obtain ⟨a1, a2, a3, a4, a5⟩ := m
 have hl := G.len
 have n5 := G.n5
 unfold impl_Vessels_behind.f impl_Vessels_own.f slices_Clone_int_int.f
 rw [if_pos (by omega), if_pos (by omega), ha]
 simp only [Option.bind_some]
 unfold beh mv
 simp only
 by_cases hf : f ≥ 0
 · have := G.s1 f (by omega) a2; have := G.h0 f (by omega) a2
   rw [if_pos hf, if_pos (show (0 : Int) ≤ f by omega), if_pos (by omega), w64 (by omega) (by omega), if_pos hf]
   by_cases ht : t ≥ 0
   · have := G.s1 t (by omega) a4; have := G.h0 t (by omega) a4
     rw [if_pos ht, if_pos (show (0 : Int) ≤ t by omega), if_pos (by omega), rd_set_ne hf ht (by omega), w64 (by omega) (by omega), if_pos ht]
   · rw [if_neg ht, if_neg ht]
 · rw [if_neg hf, if_neg hf]
   by_cases ht : t ≥ 0
   · have := G.s1 t (by omega) a4; have := G.h0 t (by omega) a4
     rw [if_pos ht, if_pos (show (0 : Int) ≤ t by omega), if_pos (by omega), w64 (by omega) (by omega), if_pos ht]
   · rw [if_neg ht, if_neg ht]
theorem spec_make_eq {s h : List Int} (G : Good s h) {f t : Int} (m : isMv s.length f t) : spec_veMake.f s h f t = some (s, beh s h f t) := by
 have ha := spec_amount_eq G m
 have hb := amt_bd G m
 obtain ⟨a1, a2, a3, a4, a5⟩ := m
 have hl := G.len
 have n5 := G.n5
 have ho : ∀ l : List Int, l.length ≤ 5 → spec_l1Own.f l = some l := fun l hl => by
  unfold spec_l1Own.f
  simp only [Option.bind_some, List.nil_append, List.length_nil]
  rw [if_pos (by omega)]
 unfold spec_veMake.f
 rw [ha, ho s n5, ho h (by omega)]
 simp only [Option.bind_some]
 unfold beh mv
 simp only
 by_cases hf : f ≥ 0
 · have := G.s1 f (by omega) a2; have := G.h0 f (by omega) a2
   rw [if_pos hf, if_pos (show (0 : Int) ≤ f by omega), if_pos (by omega), w64 (by omega) (by omega), if_pos hf]
   by_cases ht : t ≥ 0
   · have := G.s1 t (by omega) a4; have := G.h0 t (by omega) a4
     rw [if_pos ht, if_pos (show (0 : Int) ≤ t by omega), if_pos (by omega), rd_set_ne hf ht (by omega), w64 (by omega) (by omega), if_pos ht]
   · rw [if_neg ht, if_neg ht]
 · rw [if_neg hf, if_neg hf]
   by_cases ht : t ≥ 0
   · have := G.s1 t (by omega) a4; have := G.h0 t (by omega) a4
     rw [if_pos ht, if_pos (show (0 : Int) ≤ t by omega), if_pos (by omega), w64 (by omega) (by omega), if_pos ht]
   · rw [if_neg ht, if_neg ht]
end Go.Proofs.Ytjllbahhkeglfaa.P
namespace Go.Proofs.Ytjllbahhkeglfaa.P
open Go.RowKit Go.Proofs.YtjllbahhkeglfaaW.PrintWords Go.Proofs.YtjllbahhkeglfaaW.PrintLast Go.Proofs.YtjllbahhkeglfaaW.PrintMore
attribute [local go_sem] max2_int min2_int max_two min_two max_three min_three max_four min_four
set_option linter.unusedVariables false
set_option linter.unusedSimpArgs false

/-! ### laws_eqIntS: function 78 -/
def laws_eqIntS.l0 : Nat → List Int → List Int → Int → Option (Bool)
 | 0, _, _, _ => none
 | k + 1, x0, x1, x5 => if x5 < (x0.length : Int) then (if 0 ≤ x5 then (if x5 < (x1.length : Int) then (if (rd x0 x5) = (rd x1 x5) then (laws_eqIntS.l0 k x0 x1 (wrap64 (x5 + 1))) else (some false)) else (none)) else (none)) else (some true)
def laws_eqIntS.f (k : Nat) (l0 : List Int) (l1 : List Int) : Option (Bool) := if (l0.length : Int) = (l1.length : Int) then (laws_eqIntS.l0 k l0 l1 0) else (some false)
theorem laws_eqIntS.mono_l : ∀ k, (∀ y0 y1 y2, LeO (laws_eqIntS.l0 k y0 y1 y2) (laws_eqIntS.l0 (k + 1) y0 y1 y2))
 | 0 => fun _ _ _ r h => by simp [laws_eqIntS.l0] at h
 | k + 1 => by
   have ih0 := laws_eqIntS.mono_l k
   · intro y0 y1 y2
     unfold laws_eqIntS.l0
     repeat' first
     | (with_reducible exact ih0 _ _ _)
     | (with_reducible exact LeO.refl _)
     | (with_reducible exact LeO.none _)
     | (with_reducible refine LeO.ite ?_ ?_)
     | (with_reducible refine LeO.bind ?_ (fun _ => ?_))
     | exact ih0 _ _ _
     | exact LeO.none _
     | refine LeO.ite ?_ ?_
     | refine LeO.bind ?_ (fun _ => ?_)
theorem laws_eqIntS.mono : ∀ a0 a1 k, LeO (laws_eqIntS.f k a0 a1) (laws_eqIntS.f (k + 1) a0 a1) := by
 intro a0 a1 k
 have ih0 := laws_eqIntS.mono_l k
 unfold laws_eqIntS.f
 repeat' first
  | (with_reducible exact ih0 _ _ _)
  | (with_reducible exact LeO.refl _)
  | (with_reducible exact LeO.none _)
  | (with_reducible refine LeO.ite ?_ ?_)
  | (with_reducible refine LeO.bind ?_ (fun _ => ?_))
  | exact ih0 _ _ _
  | exact LeO.none _
  | refine LeO.ite ?_ ?_
  | refine LeO.bind ?_ (fun _ => ?_)
set_option maxHeartbeats 8000000 in
set_option maxRecDepth 100000 in
theorem laws_eqIntS.calls (k : Nat) (A0 : Option Addr) (c0 : Nat) (l0 : List Int) (A1 : Option Addr) (c1 : Nat) (l1 : List Int) (r : Bool) (w : World) (hr0 : Kd.C (Kd.int .i64) w A0 l0.length l0) (hc0 : l0.length ≤ c0) (hr1 : Kd.C (Kd.int .i64) w A1 l1.length l1) (hc1 : l1.length ≤ c1) (h : laws_eqIntS.f k l0 l1 = some r) :
 Calls Try.prog 78 #[.slice A0 l0.length c0, .slice A1 l1.length c1] w fun e w' => e = .returned (.bool r) ∧ Drawn0 w w' := by
 have HR0 := Aside0.mk hr0
 have HC0 := Aside0.mk hc0
 clear hr0 hc0
 have HR1 := Aside0.mk hr1
 have HC1 := Aside0.mk hc1
 clear hr1 hc1
 have H : (if (l0.length : Int) = (l1.length : Int) then (laws_eqIntS.l0 k l0 l1 0) else (some false)) = some r := h
 clear h
 by_cases c3 : (l0.length : Int) = (l1.length : Int)
 · rw [if_pos c3] at H
   have c3b0 : ((l0.length : Int) == (l1.length : Int)) = true := beq_iff_eq.mpr c3
   have c3b1 : ((l0.length : Int) != (l1.length : Int)) = false := bne_eq_false_iff_eq.mpr c3
   have c3b2 : (l0.length == l1.length) = true := by first | simpa using c3 | (simp at c3 ⊢; omega)
   clear c3
   have H' := Aside0.mk H
   clear H
   go_enter Try.func78, Try.ntmps78
   go_wp2
   repeat (go_quiet (fail); try go_wp2)
   go_loopg [5] k (fun kq v5 w' => ∃ (x5_1 : Int), v5 = .int .i64 x5_1 ∧ Aside0 (laws_eqIntS.l0 kq l0 l1 x5_1 = some r) ∧ Aside0 (kq ≤ k) ∧ Drawn0 w w')
   case atStart => exact ⟨(0), (by first | rfl | (simp; done) | (simp [*]; done)), H', ⟨Nat.le_refl _⟩, by repeat (first | exact Drawn0.refl _ | apply Drawn0.step)⟩
   case round =>
    clear H'
    try clear c1
    try clear p2
    try clear c3
    try clear c3b0
    try clear c3b1
    try clear c3b2
    obtain ⟨x5_1, rfl, HA, HK1, ⟨m1, rfl⟩⟩ := hrel
    cases gk with
    | zero => exact absurd HA.out (by simp [laws_eqIntS.l0])
    | succ k1 =>
      have H := HA.out
      clear HA
      simp only [laws_eqIntS.l0] at H
      by_cases c4 : x5_1 < (l0.length : Int)
      · rw [if_pos c4] at H
        have c4b0 : decide (x5_1 < (l0.length : Int)) = true := decide_eq_true c4
        clear c4
        by_cases c5 : 0 ≤ x5_1
        · rw [if_pos c5] at H
          have c5b0 : decide (0 ≤ x5_1) = true := decide_eq_true c5
          clear c5
          by_cases c6 : x5_1 < (l1.length : Int)
          · rw [if_pos c6] at H
            have c6b0 : decide (x5_1 < (l1.length : Int)) = true := decide_eq_true c6
            clear c6
            by_cases c7 : (rd l0 x5_1) = (rd l1 x5_1)
            · rw [if_pos c7] at H
              have c7b0 : ((rd l0 x5_1) == (rd l1 x5_1)) = true := beq_iff_eq.mpr c7
              have c7b1 : ((rd l0 x5_1) != (rd l1 x5_1)) = false := bne_eq_false_iff_eq.mpr c7
              clear c7
              have H' := Aside0.mk H
              clear H
              have p101 : 0 ≤ (x5_1 : Int) := of_decide_eq_true (by first | (with_reducible assumption) | assumption)
              have q101 : x5_1 < (l0.length : Int) := of_decide_eq_true (by first | (with_reducible assumption) | assumption)
              obtain ⟨ad101, e101, hx101_0⟩ := Kd.at_int HR0.out x5_1 p101 q101
              cases e101
              replace p101 := eq_true p101
              replace q101 := eq_true q101
              have p102 : 0 ≤ (x5_1 : Int) := of_decide_eq_true (by first | (with_reducible assumption) | assumption)
              have q102 : x5_1 < (l1.length : Int) := of_decide_eq_true (by first | (with_reducible assumption) | assumption)
              obtain ⟨ad102, e102, hx102_0⟩ := Kd.at_int HR1.out x5_1 p102 q102
              cases e102
              replace p102 := eq_true p102
              replace q102 := eq_true q102
              go_wp2
              repeat (go_quiet (fail); try go_wp2)
              go_roundg k1
              case measure => have := HK1.out; omega
              case rel => exact ⟨(wrap64 (x5_1 + 1)), (by first | rfl | (simp; done) | (simp [*]; done)), H', ⟨by have := HK1.out; omega⟩, by repeat (first | exact Drawn0.refl _ | apply Drawn0.step)⟩
            · rw [if_neg c7] at H
              have c7b0 : ((rd l0 x5_1) == (rd l1 x5_1)) = false := beq_eq_false_iff_ne.mpr c7
              have c7b1 : ((rd l0 x5_1) != (rd l1 x5_1)) = true := bne_iff_ne.mpr c7
              obtain rfl := Option.some.inj H
              have p101 : 0 ≤ (x5_1 : Int) := of_decide_eq_true (by first | (with_reducible assumption) | assumption)
              have q101 : x5_1 < (l0.length : Int) := of_decide_eq_true (by first | (with_reducible assumption) | assumption)
              obtain ⟨ad101, e101, hx101_0⟩ := Kd.at_int HR0.out x5_1 p101 q101
              cases e101
              replace p101 := eq_true p101
              replace q101 := eq_true q101
              have p102 : 0 ≤ (x5_1 : Int) := of_decide_eq_true (by first | (with_reducible assumption) | assumption)
              have q102 : x5_1 < (l1.length : Int) := of_decide_eq_true (by first | (with_reducible assumption) | assumption)
              obtain ⟨ad102, e102, hx102_0⟩ := Kd.at_int HR1.out x5_1 p102 q102
              cases e102
              replace p102 := eq_true p102
              replace q102 := eq_true q102
              go_wp2
              repeat (go_quiet (fail); try go_wp2)
              go_ret
              exact ⟨by first | rfl | (simp; done) | (simp [*]; done), by repeat (first | exact Drawn0.refl _ | apply Drawn0.step)⟩
          · rw [if_neg c6] at H
            exact absurd H (by simp)
        · rw [if_neg c5] at H
          exact absurd H (by simp)
      · rw [if_neg c4] at H
        have c4b0 : decide (x5_1 < (l0.length : Int)) = false := decide_eq_false c4
        clear c4
        obtain rfl := Option.some.inj H
        go_wp2
        repeat (go_quiet (fail); try go_wp2)
        go_ret
        exact ⟨by first | rfl | (simp; done) | (simp [*]; done), by repeat (first | exact Drawn0.refl _ | apply Drawn0.step)⟩
 · rw [if_neg c3] at H
   have c3b0 : ((l0.length : Int) == (l1.length : Int)) = false := beq_eq_false_iff_ne.mpr c3
   have c3b1 : ((l0.length : Int) != (l1.length : Int)) = true := bne_iff_ne.mpr c3
   have c3b2 : (l0.length == l1.length) = false := by first | simpa using c3 | (simp at c3 ⊢; omega)
   obtain rfl := Option.some.inj H
   go_enter Try.func78, Try.ntmps78
   go_wp2
   repeat (go_quiet (fail); try go_wp2)
   go_ret
   exact ⟨by first | rfl | (simp; done) | (simp [*]; done), by repeat (first | exact Drawn0.refl _ | apply Drawn0.step)⟩

end Go.Proofs.Ytjllbahhkeglfaa.P
namespace Go.Proofs.Ytjllbahhkeglfaa.P
open Go.RowKit Go.Proofs.YtjllbahhkeglfaaW.PrintWords Go.Proofs.YtjllbahhkeglfaaW.PrintLast Go.Proofs.YtjllbahhkeglfaaW.PrintMore
attribute [local go_sem] max2_int min2_int max_two min_two max_three min_three max_four min_four
set_option linter.unusedVariables false
set_option linter.unusedSimpArgs false

/-! ### laws_szIntS: function 85 -/
def laws_szIntS.f (l0 : List Int) (a1 : Int) : Option (Int) := if (wrap64 (a1 - (l0.length : Int))) < 0 then (some (-1)) else (some (wrap64 (a1 - (l0.length : Int))))
set_option maxHeartbeats 8000000 in
set_option maxRecDepth 100000 in
theorem laws_szIntS.calls (A0 : Option Addr) (c0 : Nat) (l0 : List Int) (a1 : Int) (r : Int) (w : World) (hr0 : Kd.C (Kd.int .i64) w A0 l0.length l0) (hc0 : l0.length ≤ c0) (h : laws_szIntS.f l0 a1 = some r) :
 Calls Try.prog 85 #[.slice A0 l0.length c0, .int .i64 a1] w fun e w' => e = .returned (.int .i64 r) ∧ Drawn0 w w' := by
 have HR0 := Aside0.mk hr0
 have HC0 := Aside0.mk hc0
 clear hr0 hc0
 have H : (if (wrap64 (a1 - (l0.length : Int))) < 0 then (some (-1)) else (some (wrap64 (a1 - (l0.length : Int))))) = some r := h
 clear h
 by_cases c3 : (wrap64 (a1 - (l0.length : Int))) < 0
 · rw [if_pos c3] at H
   have c3b0 : decide ((wrap64 (a1 - (l0.length : Int))) < 0) = true := decide_eq_true c3
   clear c3
   obtain rfl := Option.some.inj H
   go_enter Try.func85, Try.ntmps85
   go_wp2
   go_ret
   exact ⟨by first | rfl | (simp; done) | (simp [*]; done), by repeat (first | exact Drawn0.refl _ | apply Drawn0.step)⟩
 · rw [if_neg c3] at H
   have c3b0 : decide ((wrap64 (a1 - (l0.length : Int))) < 0) = false := decide_eq_false c3
   clear c3
   obtain rfl := Option.some.inj H
   go_enter Try.func85, Try.ntmps85
   go_wp2
   go_ret
   exact ⟨by first | rfl | (simp; done) | (simp [*]; done), by repeat (first | exact Drawn0.refl _ | apply Drawn0.step)⟩

end Go.Proofs.Ytjllbahhkeglfaa.P
namespace Go.Proofs.Ytjllbahhkeglfaa.P
open Go.RowKit Go.Proofs.YtjllbahhkeglfaaW.PrintWords Go.Proofs.YtjllbahhkeglfaaW.PrintLast Go.Proofs.YtjllbahhkeglfaaW.PrintMore
attribute [local go_sem] max2_int min2_int max_two min_two max_three min_three max_four min_four
set_option linter.unusedVariables false
set_option linter.unusedSimpArgs false

/-! ### laws_toIntS: function 90 -/
def laws_toIntS.l0 : Nat → List Int → List Int → Int → Option (List Int)
 | 0, _, _, _ => none
 | k + 1, x0, x3, x4 => if x4 < (x0.length : Int) then (if 0 ≤ x4 then (if x4 < (x3.length : Int) then (laws_toIntS.l0 k x0 (x3.set (x4 : Int).toNat (rd x0 x4)) (wrap64 (x4 + 1))) else (none)) else (none)) else (some x3)
def laws_toIntS.f (k : Nat) (l0 : List Int) : Option (List Int) := if 0 ≤ (l0.length : Int) then (if ((l0.length : Int) : Int).toNat ≤ 35184372088832 then (laws_toIntS.l0 k l0 (List.replicate ((l0.length : Int) : Int).toNat 0) 0) else (none)) else (none)
theorem laws_toIntS.mono_l : ∀ k, (∀ y0 y1 y2, LeO (laws_toIntS.l0 k y0 y1 y2) (laws_toIntS.l0 (k + 1) y0 y1 y2))
 | 0 => fun _ _ _ r h => by simp [laws_toIntS.l0] at h
 | k + 1 => by
   have ih0 := laws_toIntS.mono_l k
   · intro y0 y1 y2
     unfold laws_toIntS.l0
     repeat' first
     | (with_reducible exact ih0 _ _ _)
     | (with_reducible exact LeO.refl _)
     | (with_reducible exact LeO.none _)
     | (with_reducible refine LeO.ite ?_ ?_)
     | (with_reducible refine LeO.bind ?_ (fun _ => ?_))
     | exact ih0 _ _ _
     | exact LeO.none _
     | refine LeO.ite ?_ ?_
     | refine LeO.bind ?_ (fun _ => ?_)
theorem laws_toIntS.mono : ∀ a0 k, LeO (laws_toIntS.f k a0) (laws_toIntS.f (k + 1) a0) := by
 intro a0 k
 have ih0 := laws_toIntS.mono_l k
 unfold laws_toIntS.f
 repeat' first
  | (with_reducible exact ih0 _ _ _)
  | (with_reducible exact LeO.refl _)
  | (with_reducible exact LeO.none _)
  | (with_reducible refine LeO.ite ?_ ?_)
  | (with_reducible refine LeO.bind ?_ (fun _ => ?_))
  | exact ih0 _ _ _
  | exact LeO.none _
  | refine LeO.ite ?_ ?_
  | refine LeO.bind ?_ (fun _ => ?_)
set_option maxHeartbeats 8000000 in
set_option maxRecDepth 100000 in
theorem laws_toIntS.calls (k : Nat) (A0 : Option Addr) (c0 : Nat) (l0 : List Int) (r : List Int) (w : World) (hr0 : Kd.C (Kd.int .i64) w A0 l0.length l0) (hc0 : l0.length ≤ c0) (h : laws_toIntS.f k l0 = some r) :
 Calls Try.prog 90 #[.slice A0 l0.length c0] w fun e w' => ∃ v0_ : Value, e = .returned (v0_) ∧ Kd.R (Kd.int .i64) 3 w' w.heap.size (fun _ => True) v0_ r ∧ Below w.heap.size w w' := by
 have HR0 := Aside0.mk hr0
 have HC0 := Aside0.mk hc0
 clear hr0 hc0
 have HB := Aside0.mk (Below.refl w.heap.size w)
 have H : (if 0 ≤ (l0.length : Int) then (if ((l0.length : Int) : Int).toNat ≤ 35184372088832 then (laws_toIntS.l0 k l0 (List.replicate ((l0.length : Int) : Int).toNat 0) 0) else (none)) else (none)) = some r := h
 clear h
 by_cases c2 : 0 ≤ (l0.length : Int)
 · rw [if_pos c2] at H
   have c2b0 := eq_true c2
   have c2b1 : decide (0 ≤ (l0.length : Int)) = true := decide_eq_true c2
   clear c2
   by_cases c3 : ((l0.length : Int) : Int).toNat ≤ 35184372088832
   · rw [if_pos c3] at H
     have c3b0 := eq_true c3
     have c3b1 : decide (((l0.length : Int) : Int).toNat ≤ 35184372088832) = true := decide_eq_true c3
     clear c3
     obtain ⟨y101, hy101⟩ : ∃ y_ : List Int, y_ = (List.replicate ((l0.length : Int) : Int).toNat 0) := ⟨_, rfl⟩
     replace H : (laws_toIntS.l0 k l0 y101 0) = some r := by first | (rw [hy101]; with_reducible exact H) | (have H2_ := (Option.bind_some _ _).symm.trans H; rw [hy101]; with_reducible exact H2_) | (have H2_ := (Option.bind_some _ _).symm.trans H; with_reducible exact H2_) | with_reducible exact H | (rw [hy101]; exact H) | exact H
     have Ny101 := Aside0.mk hy101
     clear hy101
     have H' := Aside0.mk H
     clear H
     go_enter Try.func90, Try.ntmps90
     go_wp2_with (first | ((with_reducible refine gate_dst (N := 7) rfl ?_); refine Kd.R_make (Kd.int .i64) _ 3 rfl (N := 7) rfl 28 _ _ rfl (l0.length : Int) rfl rfl Try.underlying28 (.int .i64 0) 8 info3 rfl (by decide) (by omega) 0 (ok := fun _ => True) (okp := fun _ => True) rfl (fun _ hk => hk) trivial (of_decide_eq_true (by first | (with_reducible assumption) | assumption)) (Nat.le_trans (Nat.mul_le_mul_right _ (of_decide_eq_true (by first | (with_reducible assumption) | assumption) : (l0.length : Int).toNat ≤ 35184372088832)) (by omega)) (Below.refl _ _) (Nat.le_refl _) ?_; intro v102 w4 ho5 hb hg_ hnew_; clear hg_ hnew_; (first | rw [← Ny101.out] at ho5 | (simp only [Int.reduceToNat] at ho5; rw [← Ny101.out] at ho5)); have n0_ := Aside0.mk (Kd.R_lower ho5 (below_size (by repeat (first | (with_reducible first | exact HB.out | apply below_alloc | apply pw_below_drewN | apply below_drew1) | exact HB.out)))); have n1_ := Aside0.mk (below_step (by repeat (first | (with_reducible first | exact HB.out | apply below_alloc | apply pw_below_drewN | apply below_drew1) | exact HB.out)) hb); clear HB; have HO103 := n0_; have HB := n1_; clear n0_ n1_; clear hb ho5))
     go_loopg [4] k (fun kq v4 w' => ∃ (x3_1 : List Int) (x4_1 : Int), v4 = .int .i64 x4_1 ∧ Aside0 (laws_toIntS.l0 kq l0 x3_1 x4_1 = some r) ∧ Aside0 (kq ≤ k) ∧ Aside0 (Kd.R (Kd.int .i64) 3 w' w.heap.size (fun _ => True) v102 x3_1) ∧ Aside0 (Below w.heap.size w w'))
     case atStart => exact ⟨(y101), (0), (by first | rfl | (simp; done) | (simp [*]; done)), H', ⟨Nat.le_refl _⟩, ⟨by (with_reducible repeat (first | apply Kd.R_alloc | apply Kd.R_drewN | apply Kd.R_drew)); exact HO103.out⟩, ⟨by repeat (first | (with_reducible first | exact HB.out | apply below_alloc | apply pw_below_drewN | apply below_drew1) | exact HB.out)⟩⟩
     case round =>
      clear H'
      try clear c2
      try clear c2b0
      try clear c2b1
      try clear p2
      try clear c3
      try clear c3b0
      try clear c3b1
      obtain ⟨x3_1, x4_1, rfl, HA, HK1, HO_3, HB⟩ := hrel
      cases gk with
      | zero => exact absurd HA.out (by simp [laws_toIntS.l0])
      | succ k1 =>
        have H := HA.out
        clear HA
        simp only [laws_toIntS.l0] at H
        by_cases c6 : x4_1 < (l0.length : Int)
        · rw [if_pos c6] at H
          have c6b0 : decide (x4_1 < (l0.length : Int)) = true := decide_eq_true c6
          clear c6
          by_cases c7 : 0 ≤ x4_1
          · rw [if_pos c7] at H
            have c7b0 : decide (0 ≤ x4_1) = true := decide_eq_true c7
            clear c7
            by_cases c8 : x4_1 < (x3_1.length : Int)
            · rw [if_pos c8] at H
              have c8b0 : decide (x4_1 < (x3_1.length : Int)) = true := decide_eq_true c8
              clear c8
              obtain ⟨y105, hy105⟩ : ∃ y_ : List Int, y_ = (x3_1.set (x4_1 : Int).toNat (rd l0 x4_1)) := ⟨_, rfl⟩
              replace H : (laws_toIntS.l0 k1 l0 y105 (wrap64 (x4_1 + 1))) = some r := by first | (rw [hy105]; with_reducible exact H) | (have H2_ := (Option.bind_some _ _).symm.trans H; rw [hy105]; with_reducible exact H2_) | (have H2_ := (Option.bind_some _ _).symm.trans H; with_reducible exact H2_) | with_reducible exact H | (rw [hy105]; exact H) | exact H
              have Ny105 := Aside0.mk hy105
              clear hy105
              have H' := Aside0.mk H
              clear H
              have p104 : 0 ≤ (x4_1 : Int) := of_decide_eq_true (by first | (with_reducible assumption) | assumption)
              have q104 : x4_1 < (l0.length : Int) := of_decide_eq_true (by first | (with_reducible assumption) | assumption)
              obtain ⟨ad104, e104, hx104_0⟩ := Kd.at_int HR0.out x4_1 p104 q104
              cases e104
              replace hx104_0 := (HB.out.cell (World.block_lt_of_cell? w _ hx104_0)).trans hx104_0
              replace p104 := eq_true p104
              replace q104 := eq_true q104
              have p9 : 0 ≤ (x4_1 : Int) := of_decide_eq_true (by first | (with_reducible assumption) | assumption)
              have q9 : (x4_1 : Int) < ((x3_1.length : Int) : Int) := of_decide_eq_true (by first | (with_reducible assumption) | assumption)
              obtain ⟨go9, co9, eo9, gb9, gl9, cl9, HG9⟩ := Kd.R_form HO_3.out (by omega)
              (first | cases eo9 | (injection eo9 with ea_ en_ ec_; (first | subst ea_ | (injection ea_ with ea_; subst ea_)); subst ec_; clear en_))
              have GB9 := Aside0.mk gb9
              have GG9 := Aside0.mk HG9
              clear gb9 gl9 HG9
              obtain ⟨hx9_0, hf9_0⟩ := Kd.R_celln 0 HO_3.out (x4_1 : Int) p9 q9
              replace p9 := eq_true p9
              replace q9 := eq_true q9
              have HP10 := Kd.R_putg HO_3.out (x4_1 : Int) (rd l0 x4_1)
              go_wp2_with (first | ((with_reducible refine gate_store (t := 3) (p := 20) rfl ?_); refine store_event (t := 3) (p := 20) (v := ?vo_w11) (w1 := (wr.setCell ⟨go9, (x4_1 : Int).toNat, none⟩ (.int .i64 (rd l0 x4_1)))) ?hg ?ho ?hn ?hr ?_; (case ho => rfl); (case hg => rfl); (case hn => rfl); (case hr => first | (go_simp; done) | (go_simp; rfl)); intro w11 hw; have hg : wr.grownBy w11 (some go9) := (by rw [hw]; exact HP10.2); have hp_ : Kd.R (Kd.int .i64) 3 w11 w.heap.size (fun _ => True) (.slice (some ⟨go9, 0, none⟩) x3_1.length co9) y105 := (by rw [hw, Ny105.out]; exact HP10.1); clear HP10; have n0_ := Aside0.mk (hp_); have n1_ := Aside0.mk ((by rw [hw]; exact below_set (HB.out) GB9.out : Below w.heap.size w w11)); clear HO_3; clear HB; have HO_3 := n0_; have HB := n1_; clear n0_ n1_; clear hg hw hp_))
              go_roundg k1
              case measure => have := HK1.out; omega
              case rel => exact ⟨(y105), (wrap64 (x4_1 + 1)), (by first | rfl | (simp; done) | (simp [*]; done)), H', ⟨by have := HK1.out; omega⟩, ⟨by (with_reducible repeat (first | apply Kd.R_alloc | apply Kd.R_drewN | apply Kd.R_drew)); exact HO_3.out⟩, ⟨by repeat (first | (with_reducible first | exact HB.out | apply below_alloc | apply pw_below_drewN | apply below_drew1) | exact HB.out)⟩⟩
            · rw [if_neg c8] at H
              exact absurd H (by simp)
          · rw [if_neg c7] at H
            exact absurd H (by simp)
        · rw [if_neg c6] at H
          have c6b0 : decide (x4_1 < (l0.length : Int)) = false := decide_eq_false c6
          clear c6
          obtain rfl := Option.some.inj H
          go_wp2
          go_ret
          exact ⟨_, by first | rfl | (simp [errW_none, errW_some] <;> rfl) | (simp [*, errW_none, errW_some] <;> rfl), by (with_reducible repeat (first | apply Kd.R_alloc | apply Kd.R_drewN | apply Kd.R_drew)); exact HO_3.out, by repeat (first | (with_reducible first | exact HB.out | apply below_alloc | apply pw_below_drewN | apply below_drew1) | exact HB.out)⟩
   · rw [if_neg c3] at H
     exact absurd H (by simp)
 · rw [if_neg c2] at H
   exact absurd H (by simp)

end Go.Proofs.Ytjllbahhkeglfaa.P
namespace Go.Proofs.Ytjllbahhkeglfaa.P
open Go.RowKit Go.Proofs.YtjllbahhkeglfaaW.PrintWords Go.Proofs.YtjllbahhkeglfaaW.PrintLast Go.Proofs.YtjllbahhkeglfaaW.PrintMore
set_option linter.unusedVariables false
set_option linter.unusedSimpArgs false
def laws_szVessels.f (l0_0 : List Int) (l0_1 : List Int) (a1 : Int) : Option (Int) := (laws_szIntS.f l0_0 a1).bind fun t102 => (if t102 < 0 then (some (-1)) else ((laws_szIntS.f l0_1 t102).bind fun t103 => (if t103 < 0 then (some (-1)) else (some t103))))
def laws_toVessels.f (k : Nat) (l0_0 : List Int) (l0_1 : List Int) : Option (List Int × List Int) := (laws_toIntS.f k l0_0).bind fun t104 => ((laws_toIntS.f k l0_1).bind fun t107 => (some (t104, t107)))
def laws_eqVessels.f (k : Nat) (l0_0 : List Int) (l0_1 : List Int) (l1_0 : List Int) (l1_1 : List Int) : Option (Bool) := (laws_eqIntS.f k l0_0 l1_0).bind fun t103 => (if t103 = true then ((laws_eqIntS.f k l0_1 l1_1).bind fun t104 => (if t104 = true then (some true) else (some false))) else (some false))
set_option maxHeartbeats 4000000 in
set_option maxRecDepth 100000 in
theorem laws_szVessels.calls (A0 : Option Addr) (c0 : Nat) (l0 : List Int) (A1 : Option Addr) (c1 : Nat) (l1 : List Int) (a r : Int) (w : World) (hr0 : Kd.C (Kd.int .i64) w A0 l0.length l0) (hc0 : l0.length ≤ c0) (hr1 : Kd.C (Kd.int .i64) w A1 l1.length l1) (hc1 : l1.length ≤ c1) (h : laws_szVessels.f l0 l1 a = some r) :
 Calls Try.prog 17 #[.agg #[.slice A0 l0.length c0, .slice A1 l1.length c1], .int .i64 a] w fun e w' => e = .returned (.int .i64 r) ∧ Below w.heap.size w w' := by
 have hu30 := Try.underlying30
 unfold laws_szVessels.f at h
 obtain ⟨t, hT, h⟩ := Option.bind_eq_some_iff.1 h
 have b2 := below_alloc (Below.refl w.heap.size w) (.cells #[.slice A0 l0.length c0, .slice A1 l1.length c1] 30)
 have k2 := blk_new w (.cells #[.slice A0 l0.length c0, .slice A1 l1.length c1] 30)
 go_enter Try.func17, Try.ntmps17
 go_upto_region 1 with fail
 generalize w.alloc (.cells #[.slice A0 l0.length c0, .slice A1 l1.length c1] 30) = W2 at b2 k2 ⊢
 have HR0 := Aside0.mk (Kd.C_below hr0 b2)
 have HR1 := Aside0.mk (Kd.C_below hr1 b2)
 have HT := Aside0.mk hT
 have B2 := Aside0.mk b2
 have h20 := blk_cell k2 0
 simp at h20
 go_upto_region 2 with (go_at_call 85; refine (laws_szIntS.calls A0 c0 l0 a t _ HR0.out hc0 HT.out).mono ?_; rintro e w3 ⟨rfl, hd⟩; have HB := Aside0.mk hd.below; clear hd)
 replace k2 := blk_below k2 HB.out
 replace HR1 := Aside0.mk (Kd.C_below HR1.out HB.out)
 replace B2 := Aside0.mk (B2.out.trans (HB.out.mono B2.out.size))
 clear h20 HB b2 hT HT HR0 hr0 hr1
 have h21 := blk_cell k2 1
 simp at h21
 by_cases h0 : t < 0
 · rw [if_pos h0] at h
   obtain rfl := Option.some.inj h
   go_wp2_with fail
   go_ret
   exact ⟨rfl, B2.out⟩
 · rw [if_neg h0] at h
   obtain ⟨u, hU, h⟩ := Option.bind_eq_some_iff.1 h
   have HU := Aside0.mk hU
   clear hU
   go_upto_region 5 with (go_at_call 85; refine (laws_szIntS.calls A1 c1 l1 t u _ HR1.out hc1 HU.out).mono ?_; rintro e w4 ⟨rfl, hd⟩; have HB := Aside0.mk (B2.out.trans (hd.below.mono B2.out.size)); clear hd)
   by_cases h1 : u < 0
   · rw [if_pos h1] at h
     obtain rfl := Option.some.inj h
     go_wp2_with fail
     go_ret
     exact ⟨rfl, HB.out⟩
   · rw [if_neg h1] at h
     obtain rfl := Option.some.inj h
     go_wp2_with fail
     go_ret
     exact ⟨rfl, HB.out⟩
set_option maxHeartbeats 4000000 in
set_option maxRecDepth 100000 in
theorem laws_eqVessels.calls (k : Nat) (A0 : Option Addr) (c0 : Nat) (l0 : List Int) (A1 : Option Addr) (c1 : Nat) (l1 : List Int) (B0 : Option Addr) (d0 : Nat) (m0 : List Int) (B1 : Option Addr) (d1 : Nat) (m1 : List Int) (r : Bool) (w : World) (hr0 : Kd.C (Kd.int .i64) w A0 l0.length l0) (hc0 : l0.length ≤ c0) (hr1 : Kd.C (Kd.int .i64) w A1 l1.length l1) (hc1 : l1.length ≤ c1) (hs0 : Kd.C (Kd.int .i64) w B0 m0.length m0) (hd0 : m0.length ≤ d0) (hs1 : Kd.C (Kd.int .i64) w B1 m1.length m1) (hd1 : m1.length ≤ d1) (h : laws_eqVessels.f k l0 l1 m0 m1 = some r) :
 Calls Try.prog 21 #[.agg #[.slice A0 l0.length c0, .slice A1 l1.length c1], .agg #[.slice B0 m0.length d0, .slice B1 m1.length d1]] w fun e w' => e = .returned (.bool r) ∧ Below w.heap.size w w' := by
 have hu33 := Try.underlying33
 unfold laws_eqVessels.f at h
 obtain ⟨t, hT, h⟩ := Option.bind_eq_some_iff.1 h
 have b2 := below_alloc (below_alloc (Below.refl w.heap.size w) (.cells #[.slice A0 l0.length c0, .slice A1 l1.length c1] 33)) (.cells #[.slice B0 m0.length d0, .slice B1 m1.length d1] 33)
 have k3 := blk_new (w.alloc (.cells #[.slice A0 l0.length c0, .slice A1 l1.length c1] 33)) (.cells #[.slice B0 m0.length d0, .slice B1 m1.length d1] 33)
 rw [show (w.alloc (.cells #[.slice A0 l0.length c0, .slice A1 l1.length c1] 33)).heap.size = w.heap.size + 1 by simp] at k3
 have k2 := blk_alloc (blk_new w (.cells #[.slice A0 l0.length c0, .slice A1 l1.length c1] 33)) (.cells #[.slice B0 m0.length d0, .slice B1 m1.length d1] 33)
 go_enter Try.func21, Try.ntmps21
 go_upto_region 1 with fail
 generalize (w.alloc (.cells #[.slice A0 l0.length c0, .slice A1 l1.length c1] 33)).alloc (.cells #[.slice B0 m0.length d0, .slice B1 m1.length d1] 33) = W2 at b2 k2 k3 ⊢
 have HR0 := Aside0.mk (Kd.C_below hr0 b2)
 have HR1 := Aside0.mk (Kd.C_below hr1 b2)
 have HS0 := Aside0.mk (Kd.C_below hs0 b2)
 have HS1 := Aside0.mk (Kd.C_below hs1 b2)
 have HT := Aside0.mk hT
 have B2 := Aside0.mk b2
 have h20 := blk_cell k2 0
 have h30 := blk_cell k3 0
 simp at h20 h30
 go_upto_if 10 with (go_at_call 78; refine (laws_eqIntS.calls k A0 c0 l0 B0 d0 m0 t _ HR0.out hc0 HS0.out hd0 HT.out).mono ?_; rintro e w3 ⟨rfl, hd⟩; have HB := Aside0.mk hd.below; clear hd)
 replace k2 := blk_below k2 HB.out
 replace k3 := blk_below k3 HB.out
 replace HR1 := Aside0.mk (Kd.C_below HR1.out HB.out)
 replace HS1 := Aside0.mk (Kd.C_below HS1.out HB.out)
 replace B2 := Aside0.mk (B2.out.trans (HB.out.mono B2.out.size))
 clear h20 h30 HB b2 hT HT HR0 HS0 hr0 hr1 hs0 hs1
 have h21 := blk_cell k2 1
 have h31 := blk_cell k3 1
 simp at h21 h31
 cases t with
 | false =>
   obtain rfl := Option.some.inj h
   go_wp2_with fail
   go_ret
   exact ⟨rfl, B2.out⟩
 | true =>
   rw [if_pos rfl] at h
   obtain ⟨u, hU, h⟩ := Option.bind_eq_some_iff.1 h
   have HU := Aside0.mk hU
   clear hU
   go_upto_if 16 with (go_at_call 78; refine (laws_eqIntS.calls k A1 c1 l1 B1 d1 m1 u _ HR1.out hc1 HS1.out hd1 HU.out).mono ?_; rintro e w4 ⟨rfl, hd⟩; have HB := Aside0.mk (B2.out.trans (hd.below.mono B2.out.size)); clear hd)
   cases u with
   | false =>
     obtain rfl := Option.some.inj h
     go_wp2_with fail
     go_ret
     exact ⟨rfl, HB.out⟩
   | true =>
     obtain rfl := Option.some.inj h
     go_wp2_with fail
     go_ret
     exact ⟨rfl, HB.out⟩
set_option maxHeartbeats 4000000 in
set_option maxRecDepth 100000 in
theorem laws_toVessels.calls (k : Nat) (A0 : Option Addr) (c0 : Nat) (l0 : List Int) (A1 : Option Addr) (c1 : Nat) (l1 : List Int) (r1 r2 : List Int) (w : World) (hr0 : Kd.C (Kd.int .i64) w A0 l0.length l0) (hc0 : l0.length ≤ c0) (hr1 : Kd.C (Kd.int .i64) w A1 l1.length l1) (hc1 : l1.length ≤ c1) (h : laws_toVessels.f k l0 l1 = some (r1, r2)) :
 Calls Try.prog 19 #[.agg #[.slice A0 l0.length c0, .slice A1 l1.length c1]] w fun e w' => ∃ v0_ v1_ : Value, e = .returned (.agg #[v0_, v1_]) ∧ Kd.R (Kd.int .i64) 3 w' w.heap.size (fun k_ => some k_ ≠ (v1_ : Value).ownBlock) v0_ r1 ∧ Kd.R (Kd.int .i64) 3 w' w.heap.size (fun k_ => some k_ ≠ (v0_ : Value).ownBlock) v1_ r2 ∧ Below w.heap.size w w' := by
 have hu30 := Try.underlying30
 have hu33 := Try.underlying33
 unfold laws_toVessels.f at h
 obtain ⟨o0, hO, h⟩ := Option.bind_eq_some_iff.1 h
 obtain ⟨o1, hP, h⟩ := Option.bind_eq_some_iff.1 h
 obtain ⟨rfl, rfl⟩ := Prod.mk.inj (Option.some.inj h)
 have b2 := below_alloc (below_alloc (below_alloc (Below.refl w.heap.size w) (.cells #[.slice A0 l0.length c0, .slice A1 l1.length c1] 30)) (.cells #[.slice none 0 0, .slice none 0 0] 33)) (.cells #[.slice none 0 0, .slice none 0 0] 33)
 have k3 := blk_new ((w.alloc (.cells #[.slice A0 l0.length c0, .slice A1 l1.length c1] 30)).alloc (.cells #[.slice none 0 0, .slice none 0 0] 33)) (.cells #[.slice none 0 0, .slice none 0 0] 33)
 rw [show ((w.alloc (.cells #[.slice A0 l0.length c0, .slice A1 l1.length c1] 30)).alloc (.cells #[.slice none 0 0, .slice none 0 0] 33)).heap.size = w.heap.size + 1 + 1 by simp] at k3
 have k2 := blk_new (w.alloc (.cells #[.slice A0 l0.length c0, .slice A1 l1.length c1] 30)) (.cells #[.slice none 0 0, .slice none 0 0] 33)
 rw [show (w.alloc (.cells #[.slice A0 l0.length c0, .slice A1 l1.length c1] 30)).heap.size = w.heap.size + 1 by simp] at k2
 replace k2 := blk_alloc k2 (.cells #[.slice none 0 0, .slice none 0 0] 33)
 have k1 := blk_alloc (blk_alloc (blk_new w (.cells #[.slice A0 l0.length c0, .slice A1 l1.length c1] 30)) (.cells #[.slice none 0 0, .slice none 0 0] 33)) (.cells #[.slice none 0 0, .slice none 0 0] 33)
 go_enter Try.func19, Try.ntmps19
 go_upto_region 2 with fail
 generalize ((w.alloc (.cells #[.slice A0 l0.length c0, .slice A1 l1.length c1] 30)).alloc (.cells #[.slice none 0 0, .slice none 0 0] 33)).alloc (.cells #[.slice none 0 0, .slice none 0 0] 33) = W2 at b2 k1 k2 k3 ⊢
 have HR0 := Aside0.mk (Kd.C_below hr0 b2)
 have HR1 := Aside0.mk (Kd.C_below hr1 b2)
 have HO := Aside0.mk hO
 have HP := Aside0.mk hP
 have B2 := Aside0.mk b2
 have K1 := Aside0.mk k1
 have K2 := Aside0.mk k2
 have K3 := Aside0.mk k3
 have h10 := blk_cell k1 0
 have h11 := blk_cell k1 1
 simp at h10 h11
 have hrw := hr1
 clear b2 k1 k2 k3 hO hP hr0 hr1 h
 go_upto_region 3 with (go_at_call 90; refine (laws_toIntS.calls k A0 c0 l0 o0 _ HR0.out hc0 HO.out).mono ?_; rintro e w3 ⟨v0, rfl, g0, hb⟩; obtain ⟨A4, c4, rfl⟩ := Kd.R_slice g0; have hk := blk_below K3.out hb; have q0 := blk_cell hk 0; have z0 := blk_frozen hk 0; simp at q0; have HK3 := Aside0.mk hk; have HV0 := Aside0.mk (Kd.R_lower g0 B2.out.size); have HB := Aside0.mk hb; clear g0 hb hk)
 have n0 := own_ne_of' HV0.out HK3.out (by decide)
 have hk4 : ∀ k, k ≠ w.heap.size + 1 + 1 → (w3.setCell ⟨w.heap.size + 1 + 1, 0, none⟩ (.slice A4 o0.length c4)).heap[k]? = w3.heap[k]? := fun k hk => Below.heap_setCell _ _ _ k hk
 have b4 := (B2.out.trans (HB.out.mono B2.out.size)).setCell (p := ⟨w.heap.size + 1 + 1, 0, none⟩) (by show w.heap.size ≤ w.heap.size + 1 + 1; omega) (.slice A4 o0.length c4)
 have v4 := R_kept HV0.out n0 hk4
 have k14 := (hk4 _ (show w.heap.size ≠ w.heap.size + 1 + 1 by omega)).trans (blk_below K1.out HB.out)
 have k24 := (hk4 _ (show w.heap.size + 1 ≠ w.heap.size + 1 + 1 by omega)).trans (blk_below K2.out HB.out)
 have k34 := blk_set HK3.out 0 (.slice A4 o0.length c4)
 generalize w3.setCell ⟨w.heap.size + 1 + 1, 0, none⟩ (.slice A4 o0.length c4) = W4 at b4 v4 k14 k24 k34 ⊢
 replace HR1 := Aside0.mk (Kd.C_below hrw b4)
 have V0 := Aside0.mk v4
 have OL := Lib.hid (Kd.R_lt v4)
 have B4 := Aside0.mk b4
 have K1 := Aside0.mk k14
 have K2 := Aside0.mk k24
 have K3 := Aside0.mk k34
 have h11 := blk_cell k14 1
 simp at h11
 clear HV0 n0 hk4 b4 v4 k14 k24 k34 HK3 HB q0 z0 h10 hrw
 go_upto_region 4 with (go_at_call 90; refine (laws_toIntS.calls k A1 c1 l1 o1 _ HR1.out hc1 HP.out).mono ?_; rintro e w5 ⟨v1, rfl, g0, hb⟩; obtain ⟨A5, c5, rfl⟩ := Kd.R_slice g0; have hk := blk_below K3.out hb; have q0 := blk_cell hk 1; have z0 := blk_frozen hk 1; simp at q0; have HK3 := Aside0.mk hk; have HV1 := Aside0.mk g0; have HB := Aside0.mk hb; clear g0 hb hk)
 have ap := r_apart (Kd.R_below V0.out HB.out) OL.out HV1.out
 have n0 := own_ne_of' ap.1 HK3.out (by decide)
 have n1 := own_ne_of' ap.2 HK3.out (by decide)
 have hk4 : ∀ k, k ≠ w.heap.size + 1 + 1 → (w5.setCell ⟨w.heap.size + 1 + 1, 1, none⟩ (.slice A5 o1.length c5)).heap[k]? = w5.heap[k]? := fun k hk => Below.heap_setCell _ _ _ k hk
 have b6 := (B4.out.trans (HB.out.mono B4.out.size)).setCell (p := ⟨w.heap.size + 1 + 1, 1, none⟩) (by show w.heap.size ≤ w.heap.size + 1 + 1; omega) (.slice A5 o1.length c5)
 have v6 := R_kept ap.1 n0 hk4
 have u6 := R_kept (Kd.R_lower ap.2 B4.out.size) n1 hk4
 have k26 := (hk4 _ (show w.heap.size + 1 ≠ w.heap.size + 1 + 1 by omega)).trans (blk_below K2.out HB.out)
 have k36 := blk_set HK3.out 1 (.slice A5 o1.length c5)
 generalize w5.setCell ⟨w.heap.size + 1 + 1, 1, none⟩ (.slice A5 o1.length c5) = W6 at b6 v6 u6 k26 k36 ⊢
 have h50 := blk_cell k36 0
 have h51 := blk_cell k36 1
 have h40 := blk_cell k26 0
 have h41 := blk_cell k26 1
 have z40 := blk_frozen k26 0
 have z41 := blk_frozen k26 1
 simp at h50 h51 h40 h41
 have hz := blk_set (blk_set k26 0 (.slice A4 o0.length c4)) 1 (.slice A5 o1.length c5)
 have y0 := blk_cell hz 0
 have y1 := blk_cell hz 1
 have V6 := Aside0.mk v6
 have U6 := Aside0.mk u6
 have B6 := Aside0.mk b6
 have K26 := Aside0.mk k26
 clear HR1 OL B4 K1 K2 K3 h11 ap n0 n1 hk4 b6 v6 u6 k26 k36 HK3 HB q0 z0 hz HV1 V0
 go_wp2_with fail
 generalize hWF : (W6.setCell ⟨w.heap.size + 1, 0, none⟩ (.slice A4 o0.length c4)).setCell ⟨w.heap.size + 1, 1, none⟩ (.slice A5 o1.length c5) = WF at y0 y1 ⊢
 simp at y0 y1
 refine bodyPost_ret (v := .agg #[.slice A4 o0.length c4, .slice A5 o1.length c5]) (by simp [results, Try.results19, go_sem, hu33, y0, y1]) rfl ?_
 have h4 := own_ne_of' V6.out K26.out (by decide)
 have h5 := own_ne_of' U6.out K26.out (by decide)
 have hk : ∀ k, k ≠ w.heap.size + 1 → WF.heap[k]? = W6.heap[k]? := fun k hk => by rw [← hWF]; exact (Below.heap_setCell _ _ _ k hk).trans (Below.heap_setCell _ _ _ k hk)
 exact ⟨_, _, rfl, R_kept V6.out h4 hk, R_kept U6.out h5 hk, by rw [← hWF]; exact (B6.out.setCell (by show w.heap.size ≤ w.heap.size + 1; omega) _).setCell (by show w.heap.size ≤ w.heap.size + 1; omega) _⟩
end Go.Proofs.Ytjllbahhkeglfaa.P
namespace Go.Proofs.Ytjllbahhkeglfaa.P
open Go.RowKit Go.Proofs.YtjllbahhkeglfaaW.PrintWords Go.Proofs.YtjllbahhkeglfaaW.PrintLast Go.Proofs.YtjllbahhkeglfaaW.PrintMore
attribute [local go_sem] max2_int min2_int max_two min_two max_three min_three max_four min_four
set_option linter.unusedVariables false
set_option linter.unusedSimpArgs false

/-! ### laws_markIntS: function 79 -/
def laws_markIntS.l0 : Nat → List Int → Int → Int → Option (Int × List Int)
 | 0, _, _, _ => none
 | k + 1, x0, x1, x5 => if x5 < (x0.length : Int) then (if 0 ≤ x5 then (laws_markIntS.l0 k (x0.set (x5 : Int).toNat x1) (wrap64 (x1 + 1)) (wrap64 (x5 + 1))) else (none)) else (some (x1, x0))
def laws_markIntS.f (k : Nat) (l0 : List Int) (a1 : Int) : Option (Int × List Int) := laws_markIntS.l0 k l0 a1 0
theorem laws_markIntS.mono_l : ∀ k, (∀ y0 y1 y2, LeO (laws_markIntS.l0 k y0 y1 y2) (laws_markIntS.l0 (k + 1) y0 y1 y2))
 | 0 => fun _ _ _ r h => by simp [laws_markIntS.l0] at h
 | k + 1 => by
   have ih0 := laws_markIntS.mono_l k
   · intro y0 y1 y2
     unfold laws_markIntS.l0
     repeat' first
     | (with_reducible exact ih0 _ _ _)
     | (with_reducible exact LeO.refl _)
     | (with_reducible exact LeO.none _)
     | (with_reducible refine LeO.ite ?_ ?_)
     | (with_reducible refine LeO.bind ?_ (fun _ => ?_))
     | exact ih0 _ _ _
     | exact LeO.none _
     | refine LeO.ite ?_ ?_
     | refine LeO.bind ?_ (fun _ => ?_)
theorem laws_markIntS.mono : ∀ a0 a1 k, LeO (laws_markIntS.f k a0 a1) (laws_markIntS.f (k + 1) a0 a1) := by
 intro a0 a1 k
 have ih0 := laws_markIntS.mono_l k
 unfold laws_markIntS.f
 repeat' first
  | (with_reducible exact ih0 _ _ _)
  | (with_reducible exact LeO.refl _)
  | (with_reducible exact LeO.none _)
  | (with_reducible refine LeO.ite ?_ ?_)
  | (with_reducible refine LeO.bind ?_ (fun _ => ?_))
  | exact ih0 _ _ _
  | exact LeO.none _
  | refine LeO.ite ?_ ?_
  | refine LeO.bind ?_ (fun _ => ?_)
set_option maxHeartbeats 8000000 in
set_option maxRecDepth 100000 in
theorem laws_markIntS.calls (k : Nat) (P0_ : Nat → Prop) (u9000_ : Value) (l0 : List Int) (a1 : Int) (r1 : Int) (r2 : List Int) (w0 w : World) (hB : Below w0.heap.size w0 w) (ho0 : Kd.R (Kd.int .i64) 3 w w0.heap.size P0_ u9000_ l0) (h : laws_markIntS.f k l0 a1 = some (r1, r2)) :
 Calls Try.prog 79 #[u9000_, .int .i64 a1] w fun e w' => e = .returned (.int .i64 r1) ∧ Kd.R (Kd.int .i64) 3 w' w0.heap.size (fun k_ => (P0_ k_ ∨ w.heap.size ≤ k_)) u9000_ r2 ∧ Below w0.heap.size w0 w' ∧ Kept w w' (fun k_ => P0_ k_) := by
 have HO0 := Aside0.mk (show Kd.R (Kd.int .i64) 3 w w0.heap.size (fun k_ => (P0_ k_ ∨ w.heap.size ≤ k_)) u9000_ l0 from Kd.R_mono ho0 (fun k_ hk => (.inl hk)))
 have HK := Aside0.mk (Kept.refl w (fun k_ => P0_ k_))
 have HW0 := Aside0.mk hB.size
 have HB := Aside0.mk hB
 clear hB
 have H : (laws_markIntS.l0 k l0 a1 0) = some (r1, r2) := h
 clear h
 have H' := Aside0.mk H
 clear H
 go_enter Try.func79, Try.ntmps79
 go_wp2
 go_loopg [1, 5] k (fun kq v1 v5 w' => ∃ (x0_1 : List Int) (x1_1 : Int) (x5_1 : Int), v1 = .int .i64 x1_1 ∧ v5 = .int .i64 x5_1 ∧ Aside0 (laws_markIntS.l0 kq x0_1 x1_1 x5_1 = some (r1, r2)) ∧ Aside0 (kq ≤ k) ∧ Aside0 (Kd.R (Kd.int .i64) 3 w' w0.heap.size (fun k_ => (P0_ k_ ∨ w.heap.size ≤ k_)) u9000_ x0_1) ∧ Aside0 (Kept w w' (fun k_ => P0_ k_)) ∧ Aside0 (Below w0.heap.size w0 w'))
 case atStart => exact ⟨(l0), (a1), (0), (by first | rfl | (simp; done) | (simp [*]; done)), (by first | rfl | (simp; done) | (simp [*]; done)), H', ⟨Nat.le_refl _⟩, ⟨by (with_reducible repeat (first | apply Kd.R_alloc | apply Kd.R_drewN | apply Kd.R_drew)); exact HO0.out⟩, ⟨by repeat (first | (with_reducible first | exact HK.out | apply Kept.alloc | apply Kept.drewN | apply Kept.drew) | exact HK.out)⟩, ⟨by repeat (first | (with_reducible first | exact HB.out | apply below_alloc | apply pw_below_drewN | apply below_drew1) | exact HB.out)⟩⟩
 case round =>
  clear H'
  try clear p2
  obtain ⟨x0_1, x1_1, x5_1, rfl, rfl, HA, HK1, HO_0, HK, HB⟩ := hrel
  cases gk with
  | zero => exact absurd HA.out (by simp [laws_markIntS.l0])
  | succ k1 =>
    have H := HA.out
    clear HA
    simp only [laws_markIntS.l0] at H
    by_cases c3 : x5_1 < (x0_1.length : Int)
    · rw [if_pos c3] at H
      have c3b0 : decide (x5_1 < (x0_1.length : Int)) = true := decide_eq_true c3
      clear c3
      by_cases c4 : 0 ≤ x5_1
      · rw [if_pos c4] at H
        have c4b0 : decide (0 ≤ x5_1) = true := decide_eq_true c4
        clear c4
        obtain ⟨y101, hy101⟩ : ∃ y_ : List Int, y_ = (x0_1.set (x5_1 : Int).toNat x1_1) := ⟨_, rfl⟩
        replace H : (laws_markIntS.l0 k1 y101 (wrap64 (x1_1 + 1)) (wrap64 (x5_1 + 1))) = some (r1, r2) := by first | (rw [hy101]; with_reducible exact H) | (have H2_ := (Option.bind_some _ _).symm.trans H; rw [hy101]; with_reducible exact H2_) | (have H2_ := (Option.bind_some _ _).symm.trans H; with_reducible exact H2_) | with_reducible exact H | (rw [hy101]; exact H) | exact H
        have Ny101 := Aside0.mk hy101
        clear hy101
        have H' := Aside0.mk H
        clear H
        obtain ⟨Ao6, co6, eo6⟩ := Kd.R_slice HO_0.out
        subst eo6
        have p5 : 0 ≤ (x5_1 : Int) := of_decide_eq_true (by first | (with_reducible assumption) | assumption)
        have q5 : (x5_1 : Int) < ((x0_1.length : Int) : Int) := of_decide_eq_true (by first | (with_reducible assumption) | assumption)
        obtain ⟨go5, co5, eo5, gb5, gl5, cl5, HG5⟩ := Kd.R_form HO_0.out (by omega)
        (first | cases eo5 | (injection eo5 with ea_ en_ ec_; (first | subst ea_ | (injection ea_ with ea_; subst ea_)); subst ec_; clear en_))
        have GB5 := Aside0.mk gb5
        have GG5 := Aside0.mk HG5
        clear gb5 gl5 HG5
        have HMgo5 := Aside0.mk (show (P0_ go5 ∨ w.heap.size ≤ go5) from (HO_0.out.1 _ rfl))
        obtain ⟨hx5_0, hf5_0⟩ := Kd.R_celln 0 HO_0.out (x5_1 : Int) p5 q5
        replace p5 := eq_true p5
        replace q5 := eq_true q5
        have HP7 := Kd.R_putg HO_0.out (x5_1 : Int) x1_1
        go_wp2_with (first | ((with_reducible refine gate_store (t := 3) (p := 15) rfl ?_); refine store_event (t := 3) (p := 15) (v := ?vo_w8) (w1 := (wr.setCell ⟨go5, (x5_1 : Int).toNat, none⟩ (.int .i64 x1_1))) ?hg ?ho ?hn ?hr ?_; (case ho => rfl); (case hg => rfl); (case hn => rfl); (case hr => first | (go_simp; done) | (go_simp; rfl)); intro w8 hw; have hg : wr.grownBy w8 (some go5) := (by rw [hw]; exact HP7.2); have hp_ : Kd.R (Kd.int .i64) 3 w8 w0.heap.size (fun k_ => (P0_ k_ ∨ w.heap.size ≤ k_)) (.slice (some ⟨go5, 0, none⟩) x0_1.length co6) y101 := (by rw [hw, Ny101.out]; exact HP7.1); clear HP7; have n0_ := Aside0.mk (hp_); have n1_ := Aside0.mk ((by rw [hw]; exact below_set (HB.out) GB5.out : Below w0.heap.size w0 w8)); have n2_ := Aside0.mk (Kept.of_grown (S := (fun k_ => P0_ k_)) hg (by repeat (first | (with_reducible first | exact HK.out | apply Kept.alloc | apply Kept.drewN | apply Kept.drew) | exact HK.out)) (fun k_ e_ => (HO_0.out.1 k_ e_))); clear HO_0; clear HB; clear HK; have HO_0 := n0_; have HB := n1_; have HK := n2_; clear n0_ n1_ n2_; clear hg hw hp_))
        go_roundg k1
        case measure => have := HK1.out; omega
        case rel => exact ⟨(y101), (wrap64 (x1_1 + 1)), (wrap64 (x5_1 + 1)), (by first | rfl | (simp; done) | (simp [*]; done)), (by first | rfl | (simp; done) | (simp [*]; done)), H', ⟨by have := HK1.out; omega⟩, ⟨by (with_reducible repeat (first | apply Kd.R_alloc | apply Kd.R_drewN | apply Kd.R_drew)); exact HO_0.out⟩, ⟨by repeat (first | (with_reducible first | exact HK.out | apply Kept.alloc | apply Kept.drewN | apply Kept.drew) | exact HK.out)⟩, ⟨by repeat (first | (with_reducible first | exact HB.out | apply below_alloc | apply pw_below_drewN | apply below_drew1) | exact HB.out)⟩⟩
      · rw [if_neg c4] at H
        exact absurd H (by simp)
    · rw [if_neg c3] at H
      have c3b0 : decide (x5_1 < (x0_1.length : Int)) = false := decide_eq_false c3
      clear c3
      simp only [Option.some.injEq, Prod.mk.injEq] at H
      obtain ⟨rfl, rfl⟩ := H
      obtain ⟨Ao9, co9, eo9⟩ := Kd.R_slice HO_0.out
      subst eo9
      go_wp2
      go_ret
      exact ⟨by first | rfl | (simp [errW_none, errW_some] <;> rfl) | (simp [*, errW_none, errW_some] <;> rfl), by (with_reducible repeat (first | apply Kd.R_alloc | apply Kd.R_drewN | apply Kd.R_drew)); exact HO_0.out, by repeat (first | (with_reducible first | exact HB.out | apply below_alloc | apply pw_below_drewN | apply below_drew1) | exact HB.out), by repeat (first | (with_reducible first | exact HK.out | apply Kept.alloc | apply Kept.drewN | apply Kept.drew) | exact HK.out)⟩

end Go.Proofs.Ytjllbahhkeglfaa.P
namespace Go.Proofs.Ytjllbahhkeglfaa.P
open Go.RowKit Go.Proofs.YtjllbahhkeglfaaW.PrintWords Go.Proofs.YtjllbahhkeglfaaW.PrintLast Go.Proofs.YtjllbahhkeglfaaW.PrintMore
attribute [local go_sem] max2_int min2_int max_two min_two max_three min_three max_four min_four
set_option linter.unusedVariables false
set_option linter.unusedSimpArgs false

/-! ### laws_markVessels: function 22 -/
def laws_markVessels.f (k : Nat) (l0_0 : List Int) (l0_1 : List Int) (a1 : Int) : Option (Int × List Int × List Int) := (laws_markIntS.f k l0_0 a1).bind fun bt102 => ((laws_markIntS.f k l0_1 bt102.1).bind fun bt104 => (some (bt104.1, bt102.2, bt104.2)))
theorem laws_markVessels.mono : ∀ a0 a1 a2 k, LeO (laws_markVessels.f k a0 a1 a2) (laws_markVessels.f (k + 1) a0 a1 a2) := by
 intro a0 a1 a2 k
 unfold laws_markVessels.f
 repeat' first
  | (with_reducible exact laws_markIntS.mono _ _ _)
  | (with_reducible exact LeO.refl _)
  | (with_reducible exact LeO.none _)
  | (with_reducible refine LeO.ite ?_ ?_)
  | (with_reducible refine LeO.bind ?_ (fun _ => ?_))
  | exact laws_markIntS.mono _ _ _
  | exact LeO.none _
  | refine LeO.ite ?_ ?_
  | refine LeO.bind ?_ (fun _ => ?_)
set_option maxHeartbeats 8000000 in
set_option maxRecDepth 100000 in
theorem laws_markVessels.calls (k : Nat) (P0_0_ : Nat → Prop) (u9000_ : Value) (l0_0 : List Int) (P0_1_ : Nat → Prop) (u9001_ : Value) (l0_1 : List Int) (a1 : Int) (r1 : Int) (r2 : List Int) (r3 : List Int) (w0 w : World) (hB : Below w0.heap.size w0 w) (ho0_0 : Kd.R (Kd.int .i64) 3 w w0.heap.size P0_0_ u9000_ l0_0) (hp0_0_0_1 : ∀ k_, P0_0_ k_ → ¬ P0_1_ k_) (ho0_1 : Kd.R (Kd.int .i64) 3 w w0.heap.size P0_1_ u9001_ l0_1) (hp0_1_0_0 : ∀ k_, P0_1_ k_ → ¬ P0_0_ k_) (h : laws_markVessels.f k l0_0 l0_1 a1 = some (r1, r2, r3)) :
 Calls Try.prog 22 #[.agg #[u9000_, u9001_], .int .i64 a1] w fun e w' => e = .returned (.int .i64 r1) ∧ Kd.R (Kd.int .i64) 3 w' w0.heap.size (fun k_ => ((P0_0_ k_ ∨ P0_1_ k_) ∨ w.heap.size ≤ k_)) u9000_ r2 ∧ Kd.R (Kd.int .i64) 3 w' w0.heap.size (fun k_ => ((P0_0_ k_ ∨ P0_1_ k_) ∨ w.heap.size ≤ k_)) u9001_ r3 ∧ Below w0.heap.size w0 w' ∧ Kept w w' (fun k_ => P0_0_ k_ ∨ P0_1_ k_) := by
 have hu33 := Try.underlying33
 have HO0_0 := Aside0.mk (show Kd.R (Kd.int .i64) 3 w w0.heap.size (fun k_ => ((P0_0_ k_ ∨ P0_1_ k_) ∨ w.heap.size ≤ k_) ∧ some k_ ≠ (u9001_ : Value).ownBlock) u9000_ l0_0 from Kd.R_mono ho0_0 (fun k_ hk => ⟨(.inl (.inl hk)), fun e_ => hp0_0_0_1 k_ hk (ho0_1.1 k_ e_.symm)⟩))
 have HO0_1 := Aside0.mk (show Kd.R (Kd.int .i64) 3 w w0.heap.size (fun k_ => ((P0_0_ k_ ∨ P0_1_ k_) ∨ w.heap.size ≤ k_) ∧ some k_ ≠ (u9000_ : Value).ownBlock) u9001_ l0_1 from Kd.R_mono ho0_1 (fun k_ hk => ⟨(.inl (.inr hk)), fun e_ => hp0_1_0_0 k_ hk (ho0_0.1 k_ e_.symm)⟩))
 have HK := Aside0.mk (Kept.refl w (fun k_ => P0_0_ k_ ∨ P0_1_ k_))
 have HW0 := Aside0.mk hB.size
 have HB := Aside0.mk hB
 clear hB
 have H : ((laws_markIntS.f k l0_0 a1).bind fun bt102 => ((laws_markIntS.f k l0_1 bt102.1).bind fun bt104 => (some (bt104.1, bt102.2, bt104.2)))) = some (r1, r2, r3) := h
 clear h
 replace H := Option.bind_eq_some_iff.mp H
 obtain ⟨⟨t102, t103⟩, A30, H⟩ := H
 replace H : ((laws_markIntS.f k l0_1 t102).bind fun bt104 => (some (bt104.1, t103, bt104.2))) = some (r1, r2, r3) := H
 have A3 := Aside0.mk A30
 clear A30
 replace H := Option.bind_eq_some_iff.mp H
 obtain ⟨⟨t104, t105⟩, A40, H⟩ := H
 replace H : (some (t104, t103, t105)) = some (r1, r2, r3) := H
 have A4 := Aside0.mk A40
 clear A40
 simp only [Option.some.injEq, Prod.mk.injEq] at H
 obtain ⟨rfl, rfl, rfl⟩ := H
 obtain ⟨Ao5, co5, eo5⟩ := Kd.R_slice HO0_0.out
 subst eo5
 obtain ⟨Ao6, co6, eo6⟩ := Kd.R_slice HO0_1.out
 subst eo6
 go_enter Try.func22, Try.ntmps22
 go_wp2_with (first | ((with_reducible refine gate_dst (N := 2) rfl ?_); refine box_event ?hg (N := 2) ?hd (cs := #[.slice Ao5 l0_0.length co5, .slice Ao6 l0_1.length co6]) (t := 33) ?hr ?_; (case hd => rfl); (case hg => rfl); (case hr => first | (go_simp; done) | (go_simp; rfl)); intro gb101 hg w7 hbox hb; have n0_ := Aside0.mk (Kd.R_below (by (with_reducible repeat (first | apply Kd.R_alloc | apply Kd.R_drewN | apply Kd.R_drew)); exact HO0_0.out) hb); have n1_ := Aside0.mk (Kd.R_below (by (with_reducible repeat (first | apply Kd.R_alloc | apply Kd.R_drewN | apply Kd.R_drew)); exact HO0_1.out) hb); have n2_ := Aside0.mk (Kept.below (S := (fun k_ => P0_0_ k_ ∨ P0_1_ k_)) (by repeat (first | (with_reducible first | exact HK.out | apply Kept.alloc | apply Kept.drewN | apply Kept.drew) | exact HK.out)) hb); have n3_ := Aside0.mk (below_step (by repeat (first | (with_reducible first | exact HB.out | apply below_alloc | apply pw_below_drewN | apply below_drew1) | exact HB.out)) hb); have n4_ := Aside0.mk (hbox); have n5_ := Aside0.mk ((by rw [hg]; exact (by first | exact HK.out.1 | exact (show Kept w _ (fun k_ => P0_0_ k_ ∨ P0_1_ k_) from by repeat (first | (with_reducible first | exact HK.out | apply Kept.alloc | apply Kept.drewN | apply Kept.drew) | exact HK.out)).1) : w.heap.size ≤ gb101)); have n6_ := Aside0.mk ((by rw [hg]; exact (below_size (by repeat (first | (with_reducible first | exact HB.out | apply below_alloc | apply pw_below_drewN | apply below_drew1) | exact HB.out))) : w0.heap.size ≤ gb101)); clear HO0_0; clear HO0_1; clear HK; clear HB; have HO0_0 := n0_; have HO0_1 := n1_; have HK := n2_; have HB := n3_; have BK101 := n4_; have GW101 := n5_; have GE101 := n6_; clear n0_ n1_ n2_ n3_ n4_ n5_ n6_; clear hb hbox hg; have hcz8_0 : w7.cell? ⟨gb101, 0, none⟩ = some (.slice Ao5 l0_0.length co5) := (blk_cell BK101.out 0).trans rfl; have hcz8_1 : w7.cell? ⟨gb101, 1, none⟩ = some (.slice Ao6 l0_1.length co6) := (blk_cell BK101.out 1).trans rfl; have hfz8_0 := blk_frozen BK101.out 0; have hfz8_1 := blk_frozen BK101.out 1) | ((with_reducible refine gate_callee (f := 79) rfl ?_); refine goesL_ (some 8) rfl rfl Try.func79 (by kernel_rfl) rfl #[.slice Ao5 l0_0.length co5, .int .i64 a1] rfl (by (try simp only [List.map_toArray, List.map_cons, List.map_nil]); first | done | rfl | (simp only [List.length_drop, List.length_take]; rfl)) ?_; (with_reducible refine (laws_markIntS.calls k (fun k_ => some k_ = (.slice Ao5 l0_0.length co5 : Value).ownBlock) (.slice Ao5 l0_0.length co5) l0_0 a1 t102 t103 w0 _ ?side1 ?side2 A3.out).mono ?_); (case side1 => repeat (first | (with_reducible first | exact HB.out | apply below_alloc | apply pw_below_drewN | apply below_drew1 | refine below_set ?_ GE101.out) | exact HB.out)); (case side2 => exact Kd.R_tight rfl HO0_0.out); rintro e w9 ⟨rfl, hy0, hb, hkp⟩; refine ⟨_, rfl, ?_⟩; have n0_ := Aside0.mk (Kd.R_reok rfl hy0 (fun k_ e_ => HO0_0.out.1 k_ e_)); have n1_ := Aside0.mk (Kd.R_mono (ok' := fun k_ => ((P0_0_ k_ ∨ P0_1_ k_) ∨ w.heap.size ≤ k_) ∧ some k_ ≠ (.slice Ao5 l0_0.length co5 : Value).ownBlock) (Kd.R_keptB (HO0_1.out) hkp (fun k_ hk_ hs_ => (hk_.2) hs_)) (fun k_ hk_ => ⟨hk_.1.1, hk_.1.2⟩)); have n2_ := Aside0.mk (blk_kept (by (with_reducible repeat (first | refine blk_drewN ?_ _ | refine blk_drew ?_ | refine blk_alloc ?_ _)); exact BK101.out) hkp (fun hs_ => (fun e_ => (Kd.R_ne HO0_0.out BK101.out (by decide)) e_) hs_)); have n3_ := Aside0.mk (Kept.then_ (S := (fun k_ => P0_0_ k_ ∨ P0_1_ k_)) (by repeat (first | (with_reducible first | exact HK.out | apply Kept.alloc | apply Kept.drewN | apply Kept.drew | refine Kept.setCell ?_ (.inr GW101.out) _) | exact HK.out)) hkp (fun k_ hs_ => (fun e_ => (HO0_0.out.1 k_ e_.symm).1) hs_)); have n4_ := Aside0.mk (hb); clear HO0_0; clear HO0_1; clear BK101; clear HK; clear HB; have HO0_0 := n0_; have HO0_1 := n1_; have BK101 := n2_; have HK := n3_; have HB := n4_; clear n0_ n1_ n2_ n3_ n4_; (try clear hb); (try clear hkp); (try clear hy0); have hcz10_0 : w9.cell? ⟨gb101, 0, none⟩ = some (.slice Ao5 l0_0.length co5) := (blk_cell BK101.out 0).trans rfl; have hcz10_1 : w9.cell? ⟨gb101, 1, none⟩ = some (.slice Ao6 l0_1.length co6) := (blk_cell BK101.out 1).trans rfl; have hfz10_0 := blk_frozen BK101.out 0; have hfz10_1 := blk_frozen BK101.out 1) | ((with_reducible refine gate_callee (f := 79) rfl ?_); refine goesL_ (some 12) rfl rfl Try.func79 (by kernel_rfl) rfl #[.slice Ao6 l0_1.length co6, .int .i64 t102] rfl (by (try simp only [List.map_toArray, List.map_cons, List.map_nil]); first | done | rfl | (simp only [List.length_drop, List.length_take]; rfl)) ?_; (with_reducible refine (laws_markIntS.calls k (fun k_ => some k_ = (.slice Ao6 l0_1.length co6 : Value).ownBlock) (.slice Ao6 l0_1.length co6) l0_1 t102 t104 t105 w0 _ ?side1 ?side2 A4.out).mono ?_); (case side1 => repeat (first | (with_reducible first | exact HB.out | apply below_alloc | apply pw_below_drewN | apply below_drew1 | refine below_set ?_ GE101.out) | exact HB.out)); (case side2 => exact Kd.R_tight rfl HO0_1.out); rintro e w11 ⟨rfl, hy0, hb, hkp⟩; refine ⟨_, rfl, ?_⟩; have n0_ := Aside0.mk (Kd.R_mono (ok' := fun k_ => ((P0_0_ k_ ∨ P0_1_ k_) ∨ w.heap.size ≤ k_) ∧ some k_ ≠ (.slice Ao6 l0_1.length co6 : Value).ownBlock) (Kd.R_keptB (HO0_0.out) hkp (fun k_ hk_ hs_ => (hk_.2) hs_)) (fun k_ hk_ => ⟨hk_.1.1, hk_.1.2⟩)); have n1_ := Aside0.mk (Kd.R_reok rfl hy0 (fun k_ e_ => HO0_1.out.1 k_ e_)); have n2_ := Aside0.mk (blk_kept (by (with_reducible repeat (first | refine blk_drewN ?_ _ | refine blk_drew ?_ | refine blk_alloc ?_ _)); exact BK101.out) hkp (fun hs_ => (fun e_ => (Kd.R_ne HO0_1.out BK101.out (by decide)) e_) hs_)); have n3_ := Aside0.mk (Kept.then_ (S := (fun k_ => P0_0_ k_ ∨ P0_1_ k_)) (by repeat (first | (with_reducible first | exact HK.out | apply Kept.alloc | apply Kept.drewN | apply Kept.drew | refine Kept.setCell ?_ (.inr GW101.out) _) | exact HK.out)) hkp (fun k_ hs_ => (fun e_ => (HO0_1.out.1 k_ e_.symm).1) hs_)); have n4_ := Aside0.mk (hb); clear HO0_0; clear HO0_1; clear BK101; clear HK; clear HB; have HO0_0 := n0_; have HO0_1 := n1_; have BK101 := n2_; have HK := n3_; have HB := n4_; clear n0_ n1_ n2_ n3_ n4_; (try clear hb); (try clear hkp); (try clear hy0)))
 go_ret
 exact ⟨by first | rfl | (simp [errW_none, errW_some] <;> rfl) | (simp [*, errW_none, errW_some] <;> rfl), by (with_reducible repeat (first | apply Kd.R_alloc | apply Kd.R_drewN | apply Kd.R_drew)); exact Kd.R_mono HO0_0.out (fun _ hk => hk.1), by (with_reducible repeat (first | apply Kd.R_alloc | apply Kd.R_drewN | apply Kd.R_drew)); exact Kd.R_mono HO0_1.out (fun _ hk => hk.1), by repeat (first | (with_reducible first | exact HB.out | apply below_alloc | apply pw_below_drewN | apply below_drew1 | refine below_set ?_ GE101.out) | exact HB.out), by repeat (first | (with_reducible first | exact HK.out | apply Kept.alloc | apply Kept.drewN | apply Kept.drew | refine Kept.setCell ?_ (.inr GW101.out) _) | exact HK.out)⟩

end Go.Proofs.Ytjllbahhkeglfaa.P
namespace Go.Proofs.Ytjllbahhkeglfaa.P
open Go.RowKit Go.Proofs.YtjllbahhkeglfaaW.PrintWords Go.Proofs.YtjllbahhkeglfaaW.PrintLast Go.Proofs.YtjllbahhkeglfaaW.PrintMore
set_option linter.unusedVariables false
set_option linter.unusedSimpArgs false
theorem sz_ints (l : List Int) (hl : l.length ≤ 9223372036854775807) (a : Int) (ha : 0 ≤ a) (hb : a ≤ 1048576) : ∃ t, laws_szIntS.f l a = some t ∧ t ≤ 1048576 ∧ (0 ≤ t → (l.length : Int) ≤ 1048576) := by
 unfold laws_szIntS.f
 rw [w64 (by omega) (by omega)]
 by_cases h : a - (l.length : Int) < 0
 · rw [if_pos h]; exact ⟨_, rfl, by omega, by omega⟩
 · rw [if_neg h]; exact ⟨_, rfl, by omega, by omega⟩
theorem sz_vessels (s h : List Int) (hs : s.length ≤ 9223372036854775807) (hh : h.length ≤ 9223372036854775807) : ∃ t, laws_szVessels.f s h 1048576 = some t ∧ (0 ≤ t → s.length ≤ 1048576 ∧ h.length ≤ 1048576) := by
 unfold laws_szVessels.f
 obtain ⟨t, e, b, h1⟩ := sz_ints s hs 1048576 (by omega) (by omega)
 rw [e, Option.bind_some]
 by_cases h0 : t < 0
 · rw [if_pos h0]; exact ⟨_, rfl, by omega⟩
 · rw [if_neg h0]
   obtain ⟨u, e2, b2, h2⟩ := sz_ints h hh t (by omega) b
   rw [e2, Option.bind_some]
   have := h1 (by omega)
   by_cases h3 : u < 0
   · rw [if_pos h3]; exact ⟨_, rfl, by omega⟩
   · rw [if_neg h3]
     have := h2 (by omega)
     exact ⟨_, rfl, fun _ => ⟨by omega, by omega⟩⟩
theorem rd_set_self' {l : List Int} {i : Nat} {v : Int} (h : i < l.length) : l.set i v = l.take i ++ v :: l.drop (i + 1) := by rw [List.set_eq_take_append_cons_drop, if_pos h]
theorem to_l0 (l : List Int) (hl : l.length ≤ 1048576) : ∀ (d : Nat) (i : Nat), i + d = l.length → Ev (fun k => laws_toIntS.l0 k l (l.take i ++ List.replicate (l.length - i) 0) (i : Int)) l
 | 0, i, h => by
   refine Ev.step (f := fun _ => some l) (fun k => ?_) (Ev.now _)
   show laws_toIntS.l0 (k + 1) l _ _ = _
   have hi : i = l.length := by omega
   rw [laws_toIntS.l0, if_neg (by omega), hi]
   simp
 | d + 1, i, h => by
   have ih := to_l0 l hl d (i + 1) (by omega)
   refine Ev.step (fun k => ?_) ih
   show laws_toIntS.l0 (k + 1) l _ _ = _
   have hi : i < l.length := by omega
   rw [laws_toIntS.l0, if_pos (by omega), if_pos (by omega), if_pos (by simp; omega), w64 (by omega) (by omega)]
   congr 1
   have hk : (l.take i).length = i := by rw [List.length_take]; omega
   have hr : l.length - i = (l.length - (i + 1)) + 1 := by omega
   rw [Int.toNat_natCast, List.set_append_right _ _ (by omega), hk, Nat.sub_self, hr, List.replicate_succ, List.set_cons_zero, List.take_succ_eq_append_getElem hi, List.append_assoc]
   simp [rd, List.getD_eq_getElem?_getD, List.getElem?_eq_getElem hi]
theorem to_ints (l : List Int) (hl : l.length ≤ 1048576) : Ev (fun k => laws_toIntS.f k l) l := by
 refine Ev.congr (fun k => ?_) (to_l0 l hl l.length 0 (by omega))
 show laws_toIntS.f k l = _
 rw [laws_toIntS.f, if_pos (by omega), if_pos (by omega)]
 simp
theorem to_vessels (s h : List Int) (hs : s.length ≤ 1048576) (hh : h.length ≤ 1048576) : Ev (fun k => laws_toVessels.f k s h) (s, h) := by
 unfold laws_toVessels.f
 exact Ev.bind (to_ints s hs) (f := fun k t => (laws_toIntS.f k h).bind fun t107 => some (t, t107)) (Ev.bind (to_ints h hh) (f := fun _ t107 => some (s, t107)) (Ev.now _))
theorem eq_l0 (l : List Int) (hl : l.length ≤ 1048576) : ∀ (d : Nat) (i : Int), i + d = l.length → 0 ≤ i → Ev (fun k => laws_eqIntS.l0 k l l i) true
 | 0, i, h, h0 => by
   refine Ev.step (f := fun _ => some true) (fun k => ?_) (Ev.now _)
   show laws_eqIntS.l0 (k + 1) l l i = _
   rw [laws_eqIntS.l0, if_neg (by omega)]
 | d + 1, i, h, h0 => by
   refine Ev.step (fun k => ?_) (eq_l0 l hl d (i + 1) (by omega) (by omega))
   show laws_eqIntS.l0 (k + 1) l l i = _
   rw [laws_eqIntS.l0, if_pos (by omega), if_pos h0, if_pos (by omega), if_pos rfl, w64 (by omega) (by omega)]
theorem eq_ints (l : List Int) (hl : l.length ≤ 1048576) : Ev (fun k => laws_eqIntS.f k l l) true :=
 Ev.congr (fun k => by show laws_eqIntS.f k l l = _; rw [laws_eqIntS.f, if_pos rfl]) (eq_l0 l hl l.length 0 (by omega) (Int.le_refl _))
theorem eq_vessels (s h : List Int) (hs : s.length ≤ 1048576) (hh : h.length ≤ 1048576) : Ev (fun k => laws_eqVessels.f k s h s h) true := by
 unfold laws_eqVessels.f
 refine Ev.bind (eq_ints s hs) (f := fun k t103 => (if t103 = true then ((laws_eqIntS.f k h h).bind fun t104 => (if t104 = true then (some true) else (some false))) else (some false))) ?_
 exact Ev.bind (eq_ints h hh) (f := fun _ t104 => (if t104 = true then (some true) else (some false))) (Ev.now _)
theorem marki_l0 : ∀ (d : Nat) (l : List Int) (i x : Int), l.length ≤ 1048576 → i + d = l.length → 0 ≤ i → 0 ≤ x → x + d ≤ 100000000 → ∃ L, Ev (fun k => laws_markIntS.l0 k l x i) (x + d, L)
 | 0, l, i, x, hl, h, h0, hx, hb => by
   refine ⟨l, Ev.step (f := fun _ => some (x, l)) (fun k => ?_) (by simpa using Ev.now (x, l))⟩
   show laws_markIntS.l0 (k + 1) l x i = _
   rw [laws_markIntS.l0, if_neg (by omega)]
 | d + 1, l, i, x, hl, h, h0, hx, hb => by
   obtain ⟨L, h1⟩ := marki_l0 d (l.set i.toNat x) (i + 1) (x + 1) (by simpa using hl) (by simp; omega) (by omega) (by omega) (by omega)
   have e : x + ((d + 1 : Nat) : Int) = (x + 1) + (d : Int) := by omega
   rw [e]
   refine ⟨L, Ev.step (fun k => ?_) h1⟩
   show laws_markIntS.l0 (k + 1) l x i = _
   rw [laws_markIntS.l0, if_pos (by omega), if_pos h0, w64 (by omega) (by omega), w64 (by omega) (by omega)]
theorem mark_vessels (s h : List Int) (hs : s.length ≤ 1048576) (hh : h.length ≤ 1048576) : ∃ r L M, 0 ≤ r ∧ Ev (fun k => laws_markVessels.f k s h 1) (r, L, M) := by
 obtain ⟨L, h1⟩ := marki_l0 s.length s 0 1 hs (by omega) (Int.le_refl _) (by omega) (by omega)
 obtain ⟨M, h2⟩ := marki_l0 h.length h 0 (1 + s.length) hh (by omega) (Int.le_refl _) (by omega) (by omega)
 refine ⟨1 + s.length + h.length, L, M, by omega, ?_⟩
 unfold laws_markVessels.f laws_markIntS.f
 exact Ev.bind h1 (f := fun k bt102 => (laws_markIntS.l0 k h bt102.1 0).bind fun bt104 => some (bt104.1, bt102.2, bt104.2)) (Ev.bind h2 (f := fun _ bt104 => some (bt104.1, L, bt104.2)) (Ev.now _))
end Go.Proofs.Ytjllbahhkeglfaa.P
namespace Go.Proofs.Ytjllbahhkeglfaa.P
open Go.RowKit Go.Proofs.YtjllbahhkeglfaaW.PrintWords Go.Proofs.YtjllbahhkeglfaaW.PrintLast Go.Proofs.YtjllbahhkeglfaaW.PrintMore
attribute [local go_sem] max2_int min2_int max_two min_two max_three min_three max_four min_four
set_option linter.unusedVariables false
set_option linter.unusedSimpArgs false

/-! ### laws_heldIntS: function 80 -/
def laws_heldIntS.l0 : Nat → List Int → Int → Int → Option (Int)
 | 0, _, _, _ => none
 | k + 1, x0, x1, x5 => if x5 < (x0.length : Int) then (if 0 ≤ x5 then (if (rd x0 x5) = x1 then (laws_heldIntS.l0 k x0 (wrap64 (x1 + 1)) (wrap64 (x5 + 1))) else (some (-1))) else (none)) else (some x1)
def laws_heldIntS.f (k : Nat) (l0 : List Int) (a1 : Int) : Option (Int) := laws_heldIntS.l0 k l0 a1 0
theorem laws_heldIntS.mono_l : ∀ k, (∀ y0 y1 y2, LeO (laws_heldIntS.l0 k y0 y1 y2) (laws_heldIntS.l0 (k + 1) y0 y1 y2))
 | 0 => fun _ _ _ r h => by simp [laws_heldIntS.l0] at h
 | k + 1 => by
   have ih0 := laws_heldIntS.mono_l k
   · intro y0 y1 y2
     unfold laws_heldIntS.l0
     repeat' first
     | (with_reducible exact ih0 _ _ _)
     | (with_reducible exact LeO.refl _)
     | (with_reducible exact LeO.none _)
     | (with_reducible refine LeO.ite ?_ ?_)
     | (with_reducible refine LeO.bind ?_ (fun _ => ?_))
     | exact ih0 _ _ _
     | exact LeO.none _
     | refine LeO.ite ?_ ?_
     | refine LeO.bind ?_ (fun _ => ?_)
theorem laws_heldIntS.mono : ∀ a0 a1 k, LeO (laws_heldIntS.f k a0 a1) (laws_heldIntS.f (k + 1) a0 a1) := by
 intro a0 a1 k
 have ih0 := laws_heldIntS.mono_l k
 unfold laws_heldIntS.f
 repeat' first
  | (with_reducible exact ih0 _ _ _)
  | (with_reducible exact LeO.refl _)
  | (with_reducible exact LeO.none _)
  | (with_reducible refine LeO.ite ?_ ?_)
  | (with_reducible refine LeO.bind ?_ (fun _ => ?_))
  | exact ih0 _ _ _
  | exact LeO.none _
  | refine LeO.ite ?_ ?_
  | refine LeO.bind ?_ (fun _ => ?_)
set_option maxHeartbeats 8000000 in
set_option maxRecDepth 100000 in
theorem laws_heldIntS.calls (k : Nat) (A0 : Option Addr) (c0 : Nat) (l0 : List Int) (a1 : Int) (r : Int) (w : World) (hr0 : Kd.C (Kd.int .i64) w A0 l0.length l0) (hc0 : l0.length ≤ c0) (h : laws_heldIntS.f k l0 a1 = some r) :
 Calls Try.prog 80 #[.slice A0 l0.length c0, .int .i64 a1] w fun e w' => e = .returned (.int .i64 r) ∧ Drawn0 w w' := by
 have HR0 := Aside0.mk hr0
 have HC0 := Aside0.mk hc0
 clear hr0 hc0
 have H : (laws_heldIntS.l0 k l0 a1 0) = some r := h
 clear h
 have H' := Aside0.mk H
 clear H
 go_enter Try.func80, Try.ntmps80
 go_wp2
 go_loopg [1, 5] k (fun kq v1 v5 w' => ∃ (x1_1 : Int) (x5_1 : Int), v1 = .int .i64 x1_1 ∧ v5 = .int .i64 x5_1 ∧ Aside0 (laws_heldIntS.l0 kq l0 x1_1 x5_1 = some r) ∧ Aside0 (kq ≤ k) ∧ Drawn0 w w')
 case atStart => exact ⟨(a1), (0), (by first | rfl | (simp; done) | (simp [*]; done)), (by first | rfl | (simp; done) | (simp [*]; done)), H', ⟨Nat.le_refl _⟩, by repeat (first | exact Drawn0.refl _ | apply Drawn0.step)⟩
 case round =>
  clear H'
  try clear p2
  obtain ⟨x1_1, x5_1, rfl, rfl, HA, HK1, ⟨m1, rfl⟩⟩ := hrel
  cases gk with
  | zero => exact absurd HA.out (by simp [laws_heldIntS.l0])
  | succ k1 =>
    have H := HA.out
    clear HA
    simp only [laws_heldIntS.l0] at H
    by_cases c3 : x5_1 < (l0.length : Int)
    · rw [if_pos c3] at H
      have c3b0 : decide (x5_1 < (l0.length : Int)) = true := decide_eq_true c3
      clear c3
      by_cases c4 : 0 ≤ x5_1
      · rw [if_pos c4] at H
        have c4b0 : decide (0 ≤ x5_1) = true := decide_eq_true c4
        clear c4
        by_cases c5 : (rd l0 x5_1) = x1_1
        · rw [if_pos c5] at H
          have c5b0 : ((rd l0 x5_1) == x1_1) = true := beq_iff_eq.mpr c5
          have c5b1 : ((rd l0 x5_1) != x1_1) = false := bne_eq_false_iff_eq.mpr c5
          clear c5
          have H' := Aside0.mk H
          clear H
          have p101 : 0 ≤ (x5_1 : Int) := of_decide_eq_true (by first | (with_reducible assumption) | assumption)
          have q101 : x5_1 < (l0.length : Int) := of_decide_eq_true (by first | (with_reducible assumption) | assumption)
          obtain ⟨ad101, e101, hx101_0⟩ := Kd.at_int HR0.out x5_1 p101 q101
          cases e101
          replace p101 := eq_true p101
          replace q101 := eq_true q101
          go_wp2
          go_roundg k1
          case measure => have := HK1.out; omega
          case rel => exact ⟨(wrap64 (x1_1 + 1)), (wrap64 (x5_1 + 1)), (by first | rfl | (simp; done) | (simp [*]; done)), (by first | rfl | (simp; done) | (simp [*]; done)), H', ⟨by have := HK1.out; omega⟩, by repeat (first | exact Drawn0.refl _ | apply Drawn0.step)⟩
        · rw [if_neg c5] at H
          have c5b0 : ((rd l0 x5_1) == x1_1) = false := beq_eq_false_iff_ne.mpr c5
          have c5b1 : ((rd l0 x5_1) != x1_1) = true := bne_iff_ne.mpr c5
          obtain rfl := Option.some.inj H
          have p101 : 0 ≤ (x5_1 : Int) := of_decide_eq_true (by first | (with_reducible assumption) | assumption)
          have q101 : x5_1 < (l0.length : Int) := of_decide_eq_true (by first | (with_reducible assumption) | assumption)
          obtain ⟨ad101, e101, hx101_0⟩ := Kd.at_int HR0.out x5_1 p101 q101
          cases e101
          replace p101 := eq_true p101
          replace q101 := eq_true q101
          go_wp2
          go_ret
          exact ⟨by first | rfl | (simp; done) | (simp [*]; done), by repeat (first | exact Drawn0.refl _ | apply Drawn0.step)⟩
      · rw [if_neg c4] at H
        exact absurd H (by simp)
    · rw [if_neg c3] at H
      have c3b0 : decide (x5_1 < (l0.length : Int)) = false := decide_eq_false c3
      clear c3
      obtain rfl := Option.some.inj H
      go_wp2
      go_ret
      exact ⟨by first | rfl | (simp; done) | (simp [*]; done), by repeat (first | exact Drawn0.refl _ | apply Drawn0.step)⟩

end Go.Proofs.Ytjllbahhkeglfaa.P
namespace Go.Proofs.Ytjllbahhkeglfaa.P
open Go.RowKit Go.Proofs.YtjllbahhkeglfaaW.PrintWords Go.Proofs.YtjllbahhkeglfaaW.PrintLast Go.Proofs.YtjllbahhkeglfaaW.PrintMore
set_option linter.unusedVariables false
set_option linter.unusedSimpArgs false
theorem rdi_set_self {l : List Int} {i v : Int} (h0 : 0 ≤ i) (h : i < l.length) : rd (l.set i.toNat v) i = v := by
 unfold rd
 rw [List.getD_eq_getElem?_getD, List.getElem?_set_self (by omega)]
 rfl
theorem rdi_set_ne {l : List Int} {i j v : Int} (h0 : 0 ≤ i) (hj : 0 ≤ j) (h : i ≠ j) : rd (l.set i.toNat v) j = rd l j := by
 unfold rd
 rw [List.getD_eq_getElem?_getD, List.getD_eq_getElem?_getD, List.getElem?_set_ne (by omega)]
theorem heldi_l0 (l : List Int) (hl : l.length ≤ 4000) : ∀ (d : Nat) (i : Int) (x : Int), i + d = l.length → 0 ≤ i → 0 ≤ x → x + d ≤ 10000 → (∀ j : Int, i ≤ j → j < l.length → rd l j = x + (j - i)) → Ev (fun k => laws_heldIntS.l0 k l x i) (x + d)
 | 0, i, x, h, h0, hx, hb, hm => by
   refine Ev.step (f := fun _ => some x) (fun k => ?_) (by simpa using Ev.now x)
   show laws_heldIntS.l0 (k + 1) l x i = _
   rw [laws_heldIntS.l0, if_neg (by omega)]
 | d + 1, i, x, h, h0, hx, hb, hm => by
   have h1 := hm i (Int.le_refl _) (by omega)
   have e : x + ((d + 1 : Nat) : Int) = (x + 1) + (d : Int) := by omega
   rw [e]
   refine Ev.step (fun k => ?_) (heldi_l0 l hl d (i + 1) (x + 1) (by omega) (by omega) (by omega) (by omega) (fun j j0 j1 => by have := hm j (by omega) j1; omega))
   show laws_heldIntS.l0 (k + 1) l x i = _
   rw [laws_heldIntS.l0, if_pos (by omega), if_pos h0, if_pos (by omega), w64 (by omega) (by omega), w64 (by omega) (by omega)]
theorem markh_l0 : ∀ (d : Nat) (l : List Int) (i : Int) (x : Int), l.length ≤ 4000 → i + d = l.length → 0 ≤ i → 0 ≤ x → x + d ≤ 10000 → ∃ L : List Int, Ev (fun k => laws_markIntS.l0 k l x i) (x + d, L) ∧ L.length = l.length ∧ (∀ j : Int, i ≤ j → j < l.length → rd L j = x + (j - i)) ∧ ∀ j : Int, 0 ≤ j → j < i → rd L j = rd l j
 | 0, l, i, x, hl, h, h0, hx, hb => by
   refine ⟨l, Ev.step (f := fun _ => some (x, l)) (fun k => ?_) (by simpa using Ev.now (x, l)), rfl, fun j j0 j1 => by omega, fun j _ _ => rfl⟩
   show laws_markIntS.l0 (k + 1) l x i = _
   rw [laws_markIntS.l0, if_neg (by omega)]
 | d + 1, l, i, x, hl, h, h0, hx, hb => by
   obtain ⟨L, h1, h2, h3, h4⟩ := markh_l0 d (l.set i.toNat x) (i + 1) (x + 1) (by simpa using hl) (by simp; omega) (by omega) (by omega) (by omega)
   have e : x + ((d + 1 : Nat) : Int) = (x + 1) + (d : Int) := by omega
   rw [e]
   refine ⟨L, Ev.step (fun k => ?_) h1, by simpa using h2, fun j j0 j1 => ?_, fun j j0 j1 => ?_⟩
   · show laws_markIntS.l0 (k + 1) l x i = _
     rw [laws_markIntS.l0, if_pos (by omega), if_pos h0, w64 (by omega) (by omega), w64 (by omega) (by omega)]
   · by_cases hj : j = i
     · subst hj
       have := h4 j h0 (by omega)
       rw [this, rdi_set_self h0 (by omega)]
       omega
     · have := h3 j (by omega) (by simpa using j1)
       omega
   · rw [h4 j j0 (by omega), rdi_set_ne h0 j0 (by omega)]
theorem marki_held (l : List Int) (hl : l.length ≤ 4000) : ∃ L : List Int, Ev (fun k => laws_markIntS.f k l 1) (1 + (l.length : Int), L) ∧ Ev (fun k => laws_heldIntS.f k L 1) (1 + (l.length : Int)) := by
 obtain ⟨L, h1, h2, h3, _⟩ := markh_l0 l.length l 0 1 hl (by omega) (Int.le_refl _) (by omega) (by omega)
 refine ⟨L, h1, ?_⟩
 have := heldi_l0 L (by omega) l.length 0 1 (by omega) (Int.le_refl _) (by omega) (by omega) (fun j j0 j1 => h3 j j0 (by omega))
 exact this
end Go.Proofs.Ytjllbahhkeglfaa.P
namespace Go.Proofs.Ytjllbahhkeglfaa.P
open Go.RowKit Go.Proofs.YtjllbahhkeglfaaW.PrintWords Go.Proofs.YtjllbahhkeglfaaW.PrintLast Go.Proofs.YtjllbahhkeglfaaW.PrintMore
set_option linter.unusedVariables false
set_option linter.unusedSimpArgs false
/-- Moves from f to t, t+1, .. with an amount. -/
def toL (s h : List Int) (f : Int) : Nat → Int → List S56
 | 0, _ => []
 | d + 1, t => (if f ≠ t ∧ 0 < amt s h f t then [⟨f, t⟩] else []) ++ toL s h f d (t + 1)
def fromL (s h : List Int) (g : Int) (m : Nat) : Nat → Int → List S56
 | 0, _ => []
 | d + 1, f => toL s h f m g ++ fromL s h g m d (f + 1)
def fst (c : Bool) : Int := if c = true then 0 else -1
/-- All moves with an amount, in order. -/
def movesP (s h : List Int) (c : Bool) : List S56 := fromL s h (fst c) (if c = true then s.length else s.length + 1) (if c = true then s.length else s.length + 1) (fst c)
theorem toL_mem {s h : List Int} {f : Int} {x : S56} : ∀ {d : Nat} {t : Int}, x ∈ toL s h f d t → x.f0 = f ∧ t ≤ x.f1 ∧ x.f1 < t + d ∧ f ≠ x.f1 ∧ 0 < amt s h f x.f1
 | 0, t, hx => by simp [toL] at hx
 | d + 1, t, hx => by
   simp only [toL, List.mem_append] at hx
   rcases hx with hx | hx
   · split at hx
     · rename_i hc
       rw [List.mem_singleton] at hx
       subst hx
       exact ⟨rfl, by simp, by simp; omega, hc.1, hc.2⟩
     · simp at hx
   · obtain ⟨h1, h2, h3, h4⟩ := toL_mem hx
     exact ⟨h1, by omega, by omega, h4⟩
theorem fromL_mem {s h : List Int} {g : Int} {m : Nat} {x : S56} : ∀ {d : Nat} {f : Int}, x ∈ fromL s h g m d f → f ≤ x.f0 ∧ x.f0 < f + d ∧ g ≤ x.f1 ∧ x.f1 < g + m ∧ x.f0 ≠ x.f1 ∧ 0 < amt s h x.f0 x.f1
 | 0, f, hx => by simp [fromL] at hx
 | d + 1, f, hx => by
   simp only [fromL, List.mem_append] at hx
   rcases hx with hx | hx
   · obtain ⟨h1, h2, h3, h4, h5⟩ := toL_mem hx
     subst h1
     exact ⟨Int.le_refl _, by omega, h2, h3, h4, h5⟩
   · obtain ⟨h1, h2, h3⟩ := fromL_mem hx
     exact ⟨by omega, by omega, h3⟩
theorem movesP_mem {s h : List Int} {c : Bool} {x : S56} (hx : x ∈ movesP s h c) : isMv s.length x.f0 x.f1 ∧ 0 < amt s h x.f0 x.f1 := by
 obtain ⟨h1, h2, h3, h4, h5, h6⟩ := fromL_mem hx
 unfold fst at *
 cases c
 · simp at *
   exact ⟨⟨by omega, by omega, by omega, by omega, h5⟩, h6⟩
 · simp at *
   exact ⟨⟨by omega, by omega, by omega, by omega, h5⟩, h6⟩
theorem toL_length {s h : List Int} {f : Int} : ∀ (d : Nat) (t : Int), (toL s h f d t).length ≤ d
 | 0, t => by simp [toL]
 | d + 1, t => by
   have := toL_length (s := s) (h := h) (f := f) d (t + 1)
   simp only [toL, List.length_append]
   split <;> simp <;> omega
theorem fromL_length {s h : List Int} {g : Int} {m : Nat} : ∀ (d : Nat) (f : Int), (fromL s h g m d f).length ≤ d * m
 | 0, t => by simp [fromL]
 | d + 1, f => by
   have h1 := fromL_length (s := s) (h := h) (g := g) (m := m) d (f + 1)
   have h2 := toL_length (s := s) (h := h) (f := f) m g
   simp only [fromL, List.length_append, Nat.add_mul]
   omega
theorem movesP_length {s h : List Int} (G : Good s h) (c : Bool) : (movesP s h c).length ≤ 36 := by
 have n5 := G.n5
 unfold movesP
 refine Nat.le_trans (fromL_length _ _) ?_
 cases c
 · simp; exact Nat.mul_le_mul (show s.length + 1 ≤ 6 by omega) (show s.length + 1 ≤ 6 by omega)
 · simp; exact Nat.le_trans (Nat.mul_le_mul n5 n5) (by omega)
theorem impl_moves_l1 {s h : List Int} (G : Good s h) (g : Int) (m : Nat) (hg : -1 ≤ g) (hgm : g + m = s.length) {f : Int} (hf : g ≤ f) (hf2 : f < s.length) {r : List S56} :
 ∀ (d : Nat) (t : Int) (acc : List S56), t + d = s.length → g ≤ t → acc.length + d ≤ 1000 → Ev (fun k => impl_Vessels_moves.l0 k g (acc ++ toL s h f d t) (f + 1) s h) r → Ev (fun k => impl_Vessels_moves.l1 k g acc f t s h) r
 | 0, t, acc, hd, ht, ha, he => by
   have n5 := G.n5
   refine Ev.step (fun k => ?_) he
   rw [impl_Vessels_moves.l1, if_neg (by omega), w64 (by omega) (by omega)]
   simp [toL]
 | d + 1, t, acc, hd, ht, ha, he => by
   have n5 := G.n5
   have ih := fun acc' h1 h2 => impl_moves_l1 G g m hg hgm hf hf2 (r := r) d (t + 1) acc' (by omega) (by omega) h1 h2
   by_cases e : f = t
   · refine Ev.step (fun k => ?_) (ih acc (by omega) ?_)
     · rw [impl_Vessels_moves.l1, if_pos (by omega), if_pos e, w64 (by omega) (by omega)]
     · simpa [toL, e] using he
   · have M : isMv s.length f t := ⟨by omega, hf2, by omega, by omega, e⟩
     have ha' := impl_amount_eq G M
     by_cases hp : 0 < amt s h f t
     · refine Ev.step (fun k => ?_) (ih (acc ++ [⟨f, t⟩]) (by simp; omega) ?_)
       · rw [impl_Vessels_moves.l1, if_pos (by omega), if_neg e, ha']
         simp only [Option.bind_some]
         rw [if_pos (by omega), if_pos (by omega), w64 (by omega) (by omega)]
       · simpa [toL, e, hp] using he
     · refine Ev.step (fun k => ?_) (ih acc (by omega) ?_)
       · rw [impl_Vessels_moves.l1, if_pos (by omega), if_neg e, ha']
         simp only [Option.bind_some]
         rw [if_neg (by omega), w64 (by omega) (by omega)]
       · simpa [toL, e, hp] using he
theorem impl_moves_l0 {s h : List Int} (G : Good s h) (g : Int) (m : Nat) (hg : -1 ≤ g) (hgm : g + m = s.length) :
 ∀ (d : Nat) (f : Int) (acc : List S56), f + d = s.length → g ≤ f → acc.length + d * 6 ≤ 900 → Ev (fun k => impl_Vessels_moves.l0 k g acc f s h) (acc ++ fromL s h g m d f)
 | 0, f, acc, hd, hf, ha => by
   refine Ev.step (fun k => ?_) (Ev.now _)
   rw [impl_Vessels_moves.l0, if_neg (by omega)]
   simp [fromL]
 | d + 1, f, acc, hd, hf, ha => by
   have n5 := G.n5
   have hl := toL_length (s := s) (h := h) (f := f) m g
   have ih := impl_moves_l0 G g m hg hgm d (f + 1) (acc ++ toL s h f m g) (by omega) (by omega) (by rw [List.length_append]; omega)
   refine Ev.step (fun k => ?_) (impl_moves_l1 G g m hg hgm hf (by omega) m g acc hgm (Int.le_refl _) (by omega) (by simpa [fromL, List.append_assoc] using ih))
   rw [impl_Vessels_moves.l0, if_pos (by omega)]
theorem impl_moves_ev {s h : List Int} (G : Good s h) (c : Bool) : Ev (fun k => impl_Vessels_moves.f k s h c) (movesP s h c) := by
 have n5 := G.n5
 unfold impl_Vessels_moves.f movesP fst
 cases c
 · simp only [if_neg (show ¬ (false = true) by simp)]
   refine Ev.step (fun k => ?_) (impl_moves_l0 G (-1) (s.length + 1) (by omega) (by omega) (s.length + 1) (-1) [] (by omega) (by omega) (by simp; omega))
   rw [impl_Vessels_moves.j0]
 · simp only [if_true]
   refine Ev.step (fun k => ?_) (impl_moves_l0 G 0 s.length (by omega) (by omega) s.length 0 [] (by omega) (by omega) (by simp; omega))
   rw [impl_Vessels_moves.j0]
theorem spec_mv_true {n : Nat} (n5 : n ≤ 5) {f t : Int} (m : isMv n f t) : spec_veMove.f (n : Int) f t = some true := by
 obtain ⟨a1, a2, a3, a4, a5⟩ := m
 unfold spec_veMove.f spec_l1In.f
 rw [w64 (by omega) (by omega), if_pos (by omega), decide_eq_true (show f ≤ (n : Int) - 1 by omega)]
 simp only [Option.bind_some, if_true]
 rw [if_pos (by omega), decide_eq_true (show t ≤ (n : Int) - 1 by omega)]
 simp only [Option.bind_some, if_true]
 simp [a5]
theorem spec_mv_same {n : Nat} (n5 : n ≤ 5) {f : Int} (h1 : -1 ≤ f) (h2 : f < n) : spec_veMove.f (n : Int) f f = some false := by
 unfold spec_veMove.f spec_l1In.f
 rw [w64 (by omega) (by omega), if_pos (by omega), decide_eq_true (show f ≤ (n : Int) - 1 by omega)]
 simp
theorem spec_on_l1 {s h : List Int} (G : Good s h) (c : Bool) {f : Int} (hf : -1 ≤ f) (hf2 : f < s.length) {r : List S56} :
 ∀ (d : Nat) (t : Int) (acc : List S56), t + d = s.length → -1 ≤ t → (c = true → 0 ≤ f ∧ 0 ≤ t) → acc.length + d ≤ 1000 → Ev (fun k => spec_veOn.l0 k c (acc ++ toL s h f d t) (f + 1) s h) r → Ev (fun k => spec_veOn.l1 k c acc f t s h) r
 | 0, t, acc, hd, ht, hc, ha, he => by
   have n5 := G.n5
   refine Ev.step (fun k => ?_) he
   rw [spec_veOn.l1, if_neg (by omega), w64 (by omega) (by omega)]
   simp [toL]
 | d + 1, t, acc, hd, ht, hc, ha, he => by
   have n5 := G.n5
   have ih := fun acc' h1 h2 => spec_on_l1 G c hf hf2 (r := r) d (t + 1) acc' (by omega) (by omega) (fun h => ⟨(hc h).1, by have := (hc h).2; omega⟩) h1 h2
   by_cases e : f = t
   · refine Ev.step (fun k => ?_) (ih acc (by omega) ?_)
     · subst e
       rw [spec_veOn.l1, if_pos (by omega), spec_mv_same n5 (by omega) (by omega), w64 (by omega) (by omega)]
       simp
     · simpa [toL, e] using he
   · have M : isMv s.length f t := ⟨by omega, hf2, by omega, by omega, e⟩
     have ha' := spec_amount_eq G M
     have hb := amt_bd G M
     by_cases hp : 0 < amt s h f t
     · refine Ev.step (fun k => ?_) (ih (acc ++ [⟨f, t⟩]) (by simp; omega) ?_)
       · rw [spec_veOn.l1, if_pos (by omega), spec_mv_true n5 M, ha']
         simp only [Option.bind_some, if_true]
         rw [if_neg (show ¬ amt s h f t = 0 by omega), if_pos (show acc.length < 8796093022208 by omega), w64 (by omega) (by omega)]
         cases c
         · simp
         · have := hc rfl
           rw [if_pos rfl, if_neg (by omega), if_neg (by omega)]
       · simpa [toL, e, hp] using he
     · refine Ev.step (fun k => ?_) (ih acc (by omega) ?_)
       · rw [spec_veOn.l1, if_pos (by omega), spec_mv_true n5 M, ha']
         simp only [Option.bind_some, if_true]
         rw [if_pos (show amt s h f t = 0 by omega), w64 (by omega) (by omega)]
         cases c
         · simp
         · have := hc rfl
           rw [if_pos rfl, if_neg (by omega), if_neg (by omega)]
       · simpa [toL, e, hp] using he
theorem spec_on_l0 {s h : List Int} (G : Good s h) (c : Bool) : ∀ (d : Nat) (f : Int) (acc : List S56), f + d = s.length → fst c ≤ f → acc.length + d * 6 ≤ 900 →
 Ev (fun k => spec_veOn.l0 k c acc f s h) (acc ++ fromL s h (fst c) (if c = true then s.length else s.length + 1) d f)
 | 0, f, acc, hd, hf, ha => by
   refine Ev.step (fun k => ?_) (Ev.now _)
   rw [spec_veOn.l0, if_neg (by omega)]
   simp [fromL]
 | d + 1, f, acc, hd, hf, ha => by
   have n5 := G.n5
   have hl := toL_length (s := s) (h := h) (f := f) (if c = true then s.length else s.length + 1) (fst c)
   have hm : (if c = true then s.length else s.length + 1) ≤ 6 := by split <;> omega
   have ih := spec_on_l0 G c d (f + 1) (acc ++ toL s h f (if c = true then s.length else s.length + 1) (fst c)) (by omega) (by omega) (by rw [List.length_append]; omega)
   have hf1 : -1 ≤ f := by unfold fst at hf; split at hf <;> omega
   cases c
   · refine Ev.step (fun k => ?_) (spec_on_l1 G false hf1 (by omega) (s.length + 1) (-1) acc (by omega) (by omega) (by simp) (by omega) (by simpa [fromL, fst, List.append_assoc] using ih))
     rw [spec_veOn.l0, if_pos (by omega)]
   · have hf0 : 0 ≤ f := by simpa [fst] using hf
     have e1 : Ev (fun k => spec_veOn.l1 k true acc f (-1) s h) (acc ++ fromL s h (fst true) (if true = true then s.length else s.length + 1) (d + 1) f) := by
      refine Ev.step (f := fun k => spec_veOn.l1 k true acc f 0 s h) (fun k => ?_) (spec_on_l1 G true hf1 (by omega) s.length 0 acc (by omega) (by omega) (fun _ => ⟨hf0, by omega⟩) (by omega) (by simpa [fromL, fst, List.append_assoc] using ih))
      show spec_veOn.l1 (k + 1) true acc f (-1) s h = _
      rw [spec_veOn.l1, if_pos (by omega), spec_mv_true n5 ⟨by omega, by omega, by omega, by omega, by omega⟩]
      simp only [Option.bind_some, if_true]
      rw [if_neg (by omega), if_pos (by omega), w64 (by omega) (by omega)]
      rfl
     refine Ev.step (fun k => ?_) e1
     rw [spec_veOn.l0, if_pos (by omega)]
theorem spec_on_skip {s h : List Int} (G : Good s h) {r : List S56} (acc : List S56) : ∀ (d : Nat) (t : Int), t + d = s.length → -1 ≤ t → Ev (fun k => spec_veOn.l0 k true acc 0 s h) r → Ev (fun k => spec_veOn.l1 k true acc (-1) t s h) r
 | 0, t, hd, ht, he => by
   have n5 := G.n5
   refine Ev.step (fun k => ?_) he
   rw [spec_veOn.l1, if_neg (by omega), w64 (by omega) (by omega)]
   rfl
 | d + 1, t, hd, ht, he => by
   have n5 := G.n5
   have n1 := G.n1
   refine Ev.step (fun k => ?_) (spec_on_skip G acc d (t + 1) (by omega) (by omega) he)
   rw [spec_veOn.l1, if_pos (by omega), w64 (by omega) (by omega)]
   by_cases e : (-1 : Int) = t
   · subst e
     rw [spec_mv_same n5 (by omega) (by omega)]
     simp
   · rw [spec_mv_true n5 ⟨by omega, by omega, by omega, by omega, e⟩]
     simp
theorem spec_on_ev {s h : List Int} (G : Good s h) (c : Bool) : Ev (fun k => spec_veOn.f k s h c) (movesP s h c) := by
 have n5 := G.n5
 unfold spec_veOn.f movesP
 cases c
 · have := spec_on_l0 G false (s.length + 1) (-1) [] (by omega) (by simp [fst]) (by simp; omega)
   simpa [fst] using this
 · have h0 := spec_on_l0 G true s.length 0 [] (by omega) (by simp [fst]) (by simp; omega)
   refine Ev.step (fun k => ?_) (spec_on_skip G [] (s.length + 1) (-1) (by omega) (by omega) (by simpa [fst] using h0))
   rw [spec_veOn.l0, if_pos (by omega)]
end Go.Proofs.Ytjllbahhkeglfaa.P
namespace Go.Proofs.Ytjllbahhkeglfaa.P
open Go.RowKit Go.Proofs.YtjllbahhkeglfaaW.PrintWords Go.Proofs.YtjllbahhkeglfaaW.PrintLast Go.Proofs.YtjllbahhkeglfaaW.PrintMore
set_option linter.unusedVariables false
set_option linter.unusedSimpArgs false
noncomputable def goodB (s h : List Int) : Bool := @decide (Good s h) (Classical.propDecidable _)
theorem goodB_iff {s h : List Int} : goodB s h = true ↔ Good s h := by unfold goodB; exact @decide_eq_true_iff _ (Classical.propDecidable _)
theorem goodB_false {s h : List Int} (n : ¬ Good s h) : goodB s h = false := by
 cases e : goodB s h
 · rfl
 · exact absurd (goodB_iff.1 e) n
theorem goodB_true {s h : List Int} (n : Good s h) : goodB s h = true := goodB_iff.2 n
/-- All from i on lie within. -/
def rest (s h : List Int) (i : Int) : Prop := ∀ j : Int, i ≤ j → j < s.length → 0 ≤ rd h j ∧ rd h j ≤ rd s j
theorem rest_step {s h : List Int} {i : Int} (h1 : 0 ≤ rd h i ∧ rd h i ≤ rd s i) : rest s h i ↔ rest s h (i + 1) := by
 constructor
 · exact fun H j h2 h3 => H j (by omega) h3
 · intro H j h2 h3
   by_cases e : j = i
   · subst e; exact h1
   · exact H j (by omega) h3
noncomputable def restB (s h : List Int) (i : Int) : Bool := @decide (rest s h i) (Classical.propDecidable _)
theorem restB_iff {s h : List Int} {i : Int} : restB s h i = true ↔ rest s h i := by unfold restB; exact @decide_eq_true_iff _ (Classical.propDecidable _)
theorem restB_congr {s h s' h' : List Int} {i i' : Int} (e : rest s h i ↔ rest s' h' i') : restB s h i = restB s' h' i' := by
 rw [Bool.eq_iff_iff, restB_iff, restB_iff, e]
theorem impl_are_l0 {s h : List Int} (hn : s.length ≤ 5) (hl : h.length = s.length) : ∀ (d : Nat) (i : Int), i + d = s.length → 0 ≤ i → Ev (fun k => impl_AreVessels.l0 k h (h.length : Int) i s h) (restB s h i)
 | 0, i, hd, h0 => by
   have e : restB s h i = true := restB_iff.2 (fun j _ _ => by omega)
   rw [e]
   refine Ev.step (fun k => ?_) (Ev.now _)
   rw [impl_AreVessels.l0, if_neg (by omega)]
 | d + 1, i, hd, h0 => by
   by_cases hc : 0 ≤ rd h i ∧ rd h i ≤ rd s i
   · rw [restB_congr (rest_step hc)]
     refine Ev.step (fun k => ?_) (impl_are_l0 hn hl d (i + 1) (by omega) (by omega))
     rw [impl_AreVessels.l0, if_pos (by omega), if_pos h0, if_pos (by omega), if_pos (by omega)]
     unfold impl_within.f
     rw [if_pos hc.1, decide_eq_true hc.2, w64 (by omega) (by omega)]
     rfl
   · have e : restB s h i = false := by
      cases e : restB s h i
      · rfl
      · exact absurd (restB_iff.1 e i (Int.le_refl _) (by omega)) hc
     rw [e]
     refine Ev.step (fun k => ?_) (Ev.now _)
     rw [impl_AreVessels.l0, if_pos (by omega), if_pos h0, if_pos (by omega), if_pos (by omega)]
     unfold impl_within.f
     by_cases h1 : 0 ≤ rd h i
     · rw [if_pos h1, decide_eq_false (fun h2 => hc ⟨h1, h2⟩)]; rfl
     · rw [if_neg h1]; rfl
theorem spec_are_l0 {s h : List Int} (hn : s.length ≤ 5) (hl : h.length = s.length) : ∀ (d : Nat) (i : Int), i + d = s.length → 0 ≤ i → Ev (fun k => spec_veGood.l0 k h (h.length : Int) i s h) (restB s h i)
 | 0, i, hd, h0 => by
   have e : restB s h i = true := restB_iff.2 (fun j _ _ => by omega)
   rw [e]
   refine Ev.step (fun k => ?_) (Ev.now _)
   rw [spec_veGood.l0, if_neg (by omega)]
 | d + 1, i, hd, h0 => by
   by_cases hc : 0 ≤ rd h i ∧ rd h i ≤ rd s i
   · rw [restB_congr (rest_step hc)]
     refine Ev.step (fun k => ?_) (spec_are_l0 hn hl d (i + 1) (by omega) (by omega))
     rw [spec_veGood.l0, if_pos (by omega), if_pos h0, if_pos (by omega), if_pos (by omega)]
     unfold spec_l1In.f
     rw [if_pos (by omega), decide_eq_true hc.2, w64 (by omega) (by omega)]
     rfl
   · have e : restB s h i = false := by
      cases e : restB s h i
      · rfl
      · exact absurd (restB_iff.1 e i (Int.le_refl _) (by omega)) hc
     rw [e]
     refine Ev.step (fun k => ?_) (Ev.now _)
     rw [spec_veGood.l0, if_pos (by omega), if_pos h0, if_pos (by omega), if_pos (by omega)]
     unfold spec_l1In.f
     by_cases h1 : 0 ≤ rd h i
     · rw [if_pos (by omega), decide_eq_false (fun h2 => hc ⟨h1, h2⟩)]; rfl
     · rw [if_neg (by omega)]; rfl
theorem rd_mem {l : List Int} {x : Int} (h : x ∈ l) : ∃ i : Int, 0 ≤ i ∧ i < l.length ∧ rd l i = x := by
 obtain ⟨j, hj, rfl⟩ := List.getElem_of_mem h
 exact ⟨j, by omega, by omega, by unfold rd; simp [List.getD_eq_getElem?_getD, List.getElem?_eq_getElem hj]⟩
theorem mem_rd {l : List Int} {i : Int} (h0 : 0 ≤ i) (h1 : i < l.length) : rd l i ∈ l := by
 unfold rd
 rw [List.getD_eq_getElem?_getD, List.getElem?_eq_getElem (by omega : i.toNat < l.length)]
 exact List.getElem_mem _
theorem good_of {s h : List Int} (h1 : 1 ≤ s.length) (h5 : s.length ≤ 5) (hl : h.length = s.length) (ha : (s.all fun x => decide (1 ≤ x) && decide (x ≤ 60)) = true) : restB s h 0 = goodB s h := by
 rw [Bool.eq_iff_iff, restB_iff, goodB_iff]
 constructor
 · intro H
   refine ⟨h1, h5, hl, fun i i0 i1 => ?_, fun i i0 i1 => H i i0 i1⟩
   have := List.all_eq_true.1 ha _ (mem_rd i0 i1)
   simpa using this
 · exact fun G j h2 h3 => G.h0 j h2 h3
theorem impl_are_ev (s h : List Int) : Ev (fun k => impl_AreVessels.f k s h) (goodB s h) := by
 have bad : ∀ (g : Bool), g = true → Ev (fun k => impl_AreVessels.j0 k g s h) false := fun g hg => by
  refine Ev.step (fun k => ?_) (Ev.now _)
  rw [impl_AreVessels.j0, if_pos hg]
 unfold impl_AreVessels.f impl_within.f impl_areWithin.f
 by_cases h1 : 1 ≤ s.length
 · by_cases h5 : s.length ≤ 5
   · rw [if_pos (by omega), decide_eq_true (by omega)]
     simp only [Option.bind_some, if_true]
     by_cases hl : h.length = s.length
     · simp only [if_pos (show (h.length : Int) = (s.length : Int) by omega)]
       cases ha : s.all fun x => decide (1 ≤ x) && decide (x ≤ 60)
       · rw [goodB_false (fun G => ?_)]
         · exact bad _ rfl
         · rw [← Bool.not_eq_true, List.all_eq_true] at ha
           refine ha (fun x hx => ?_)
           obtain ⟨i, i0, i1, rfl⟩ := rd_mem hx
           have := G.s1 i i0 i1
           simp; omega
       · rw [← good_of h1 h5 hl ha]
         refine Ev.step (fun k => ?_) (impl_are_l0 h5 hl s.length 0 (by omega) (by omega))
         rw [impl_AreVessels.j0]; rfl
     · simp only [if_neg (show ¬ (h.length : Int) = (s.length : Int) by omega)]
       rw [goodB_false (fun G => hl G.len)]
       exact bad _ rfl
   · rw [if_pos (by omega), decide_eq_false (by omega), goodB_false (fun G => h5 G.n5)]
     exact bad _ rfl
 · rw [if_neg (by omega), goodB_false (fun G => h1 G.n1)]
   exact bad _ rfl
theorem spec_all_l0 (l : List Int) (hl : l.length ≤ 9223372036854775806) (a b : Int) : ∀ (d : Nat) (i : Int), i + d = l.length → 0 ≤ i → Ev (fun k => spec_l1All.l0 k a b l (l.length : Int) i) ((l.drop i.toNat).all fun x => decide (a ≤ x) && decide (x ≤ b))
 | 0, i, hd, h0 => by
   rw [List.drop_of_length_le (by omega)]
   refine Ev.step (fun k => ?_) (Ev.now _)
   rw [spec_l1All.l0, if_neg (by omega)]
   rfl
 | d + 1, i, hd, h0 => by
   have hi : i.toNat < l.length := by omega
   have e : rd l i = l[i.toNat] := by unfold rd; simp [List.getD_eq_getElem?_getD, List.getElem?_eq_getElem hi]
   rw [List.drop_eq_getElem_cons hi, List.all_cons, ← e]
   by_cases hc : a ≤ rd l i ∧ rd l i ≤ b
   · rw [decide_eq_true hc.1, decide_eq_true hc.2, Bool.true_and, Bool.true_and]
     have ih := spec_all_l0 l hl a b d (i + 1) (by omega) (by omega)
     rw [show (i + 1).toNat = i.toNat + 1 by omega] at ih
     refine Ev.step (fun k => ?_) ih
     rw [spec_l1All.l0, if_pos (by omega), if_pos h0, if_pos (by omega)]
     unfold spec_l1In.f
     rw [if_pos (by omega), decide_eq_true hc.2, w64 (by omega) (by omega)]
     rfl
   · have e2 : (decide (a ≤ rd l i) && decide (rd l i ≤ b)) = false := by
      cases h : (decide (a ≤ rd l i) && decide (rd l i ≤ b))
      · rfl
      · exact absurd (by simpa using h) hc
     rw [e2, Bool.false_and]
     refine Ev.step (fun k => ?_) (Ev.now _)
     rw [spec_l1All.l0, if_pos (by omega), if_pos h0, if_pos (by omega)]
     unfold spec_l1In.f
     by_cases h1 : a ≤ rd l i
     · rw [if_pos (by omega), decide_eq_false (fun h2 => hc ⟨h1, h2⟩)]; rfl
     · rw [if_neg (by omega)]; rfl
theorem spec_are_ev (s h : List Int) : Ev (fun k => spec_veGood.f k s h) (goodB s h) := by
 have bad : ∀ (g : Bool), g = true → Ev (fun k => spec_veGood.j0 k g s h) false := fun g hg => by
  refine Ev.step (fun k => ?_) (Ev.now _)
  rw [spec_veGood.j0, if_pos hg]
 unfold spec_veGood.f spec_l1In.f
 by_cases h1 : 1 ≤ s.length
 · by_cases h5 : s.length ≤ 5
   · rw [if_pos (by omega), decide_eq_true (by omega)]
     simp only [Option.bind_some, if_true]
     by_cases hl : h.length = s.length
     · simp only [if_pos (show (h.length : Int) = (s.length : Int) by omega)]
       have hall := spec_all_l0 s (by omega) 1 60 s.length 0 (by omega) (by omega)
       simp only [Int.toNat_zero, List.drop_zero] at hall
       cases ha : s.all fun x => decide (1 ≤ x) && decide (x ≤ 60)
       · rw [goodB_false (fun G => ?_)]
         · rw [ha] at hall
           exact Ev.bind hall (bad _ rfl)
         · rw [← Bool.not_eq_true, List.all_eq_true] at ha
           refine ha (fun x hx => ?_)
           obtain ⟨i, i0, i1, rfl⟩ := rd_mem hx
           have := G.s1 i i0 i1
           simp; omega
       · rw [← good_of h1 h5 hl ha]
         rw [ha] at hall
         refine Ev.bind hall (Ev.step (fun k => ?_) (spec_are_l0 h5 hl s.length 0 (by omega) (by omega)))
         rw [spec_veGood.j0]; rfl
     · simp only [if_neg (show ¬ (h.length : Int) = (s.length : Int) by omega)]
       rw [goodB_false (fun G => hl G.len)]
       exact bad _ rfl
   · rw [if_pos (by omega), decide_eq_false (by omega), goodB_false (fun G => h5 G.n5)]
     exact bad _ rfl
 · rw [if_neg (by omega), goodB_false (fun G => h1 G.n1)]
   exact bad _ rfl
/-- Which of two lists of one length comes first. -/
def lessP : List Int → List Int → Bool
 | a :: l, b :: m => if a = b then lessP l m else decide (a < b)
 | _, _ => false
theorem spec_less_l0 (l m : List Int) (x y : List Int) (hlen : l.length = m.length) (hl : l.length ≤ 9223372036854775806) : ∀ (d : Nat) (i : Int), i + d = l.length → 0 ≤ i → Ev (fun k => spec_plLess.l0 k l (l.length : Int) i x m) (lessP (l.drop i.toNat) (m.drop i.toNat))
 | 0, i, hd, h0 => by
   rw [List.drop_of_length_le (by omega)]
   refine Ev.step (fun k => ?_) (Ev.now _)
   rw [spec_plLess.l0, if_neg (by omega)]
   rfl
 | d + 1, i, hd, h0 => by
   have hi : i.toNat < l.length := by omega
   have hj : i.toNat < m.length := by omega
   have e : rd l i = l[i.toNat] := by unfold rd; simp [List.getD_eq_getElem?_getD, List.getElem?_eq_getElem hi]
   have e' : rd m i = m[i.toNat] := by unfold rd; simp [List.getD_eq_getElem?_getD, List.getElem?_eq_getElem hj]
   rw [List.drop_eq_getElem_cons hi, List.drop_eq_getElem_cons hj, lessP, ← e, ← e']
   have ih := spec_less_l0 l m x y hlen hl d (i + 1) (by omega) (by omega)
   rw [show (i + 1).toNat = i.toNat + 1 by omega] at ih
   by_cases hc : rd l i = rd m i
   · rw [if_pos hc]
     refine Ev.step (fun k => ?_) ih
     rw [spec_plLess.l0, if_pos (by omega), if_pos h0, if_pos (by omega), if_pos (by omega), if_pos hc, w64 (by omega) (by omega)]
   · rw [if_neg hc]
     refine Ev.step (fun k => ?_) (Ev.now _)
     rw [spec_plLess.l0, if_pos (by omega), if_pos h0, if_pos (by omega), if_pos (by omega), if_neg hc]
theorem spec_less_ev (s1 l s2 m : List Int) (hlen : l.length = m.length) (hl : l.length ≤ 5) : Ev (fun k => spec_plLess.f k s1 l s2 m) (lessP l m) := by
 have := spec_less_l0 l m s2 [] hlen (by omega) l.length 0 (by omega) (by omega)
 simpa [spec_plLess.f] using this
theorem spec_same_l0 (l m : List Int) (x : List Int) (hlen : l.length = m.length) (hl : l.length ≤ 9223372036854775806) : ∀ (d : Nat) (i : Int), i + d = l.length → 0 ≤ i → Ev (fun k => spec_veSame.l0 k l (l.length : Int) i x m) (decide (l.drop i.toNat = m.drop i.toNat))
 | 0, i, hd, h0 => by
   rw [List.drop_of_length_le (by omega), List.drop_of_length_le (by omega)]
   refine Ev.step (fun k => ?_) (Ev.now _)
   rw [spec_veSame.l0, if_neg (by omega)]
   simp
 | d + 1, i, hd, h0 => by
   have hi : i.toNat < l.length := by omega
   have hj : i.toNat < m.length := by omega
   have e : rd l i = l[i.toNat] := by unfold rd; simp [List.getD_eq_getElem?_getD, List.getElem?_eq_getElem hi]
   have e' : rd m i = m[i.toNat] := by unfold rd; simp [List.getD_eq_getElem?_getD, List.getElem?_eq_getElem hj]
   rw [List.drop_eq_getElem_cons hi, List.drop_eq_getElem_cons hj, ← e, ← e']
   have ih := spec_same_l0 l m x hlen hl d (i + 1) (by omega) (by omega)
   rw [show (i + 1).toNat = i.toNat + 1 by omega] at ih
   by_cases hc : rd l i = rd m i
   · have e2 : decide (rd l i :: l.drop (i.toNat + 1) = rd m i :: m.drop (i.toNat + 1)) = decide (l.drop (i.toNat + 1) = m.drop (i.toNat + 1)) := by simp [hc]
     rw [e2]
     refine Ev.step (fun k => ?_) ih
     rw [spec_veSame.l0, if_pos (by omega), if_pos h0, if_pos (by omega), if_pos (by omega), if_pos hc, w64 (by omega) (by omega)]
   · have e2 : decide (rd l i :: l.drop (i.toNat + 1) = rd m i :: m.drop (i.toNat + 1)) = false := by simp [hc]
     rw [e2]
     refine Ev.step (fun k => ?_) (Ev.now _)
     rw [spec_veSame.l0, if_pos (by omega), if_pos h0, if_pos (by omega), if_pos (by omega), if_neg hc]
theorem spec_same_ev (s1 l s2 m : List Int) (hlen : l.length = m.length) (hl : l.length ≤ 5) : Ev (fun k => spec_veSame.f k s1 l s2 m) (decide (l = m)) := by
 have := spec_same_l0 l m s2 hlen (by omega) l.length 0 (by omega) (by omega)
 simpa [spec_veSame.f] using this
theorem spec_has_l0 (l : List Int) (a : Int) (hl : l.length ≤ 9223372036854775806) : ∀ (d : Nat) (i : Int), i + d = l.length → 0 ≤ i → Ev (fun k => spec_l1Has.l0 k a l (l.length : Int) i) (decide (a ∈ l.drop i.toNat))
 | 0, i, hd, h0 => by
   rw [List.drop_of_length_le (by omega)]
   refine Ev.step (fun k => ?_) (Ev.now _)
   rw [spec_l1Has.l0, if_neg (by omega)]
   simp
 | d + 1, i, hd, h0 => by
   have hi : i.toNat < l.length := by omega
   have e : rd l i = l[i.toNat] := by unfold rd; simp [List.getD_eq_getElem?_getD, List.getElem?_eq_getElem hi]
   rw [List.drop_eq_getElem_cons hi, ← e]
   have ih := spec_has_l0 l a hl d (i + 1) (by omega) (by omega)
   rw [show (i + 1).toNat = i.toNat + 1 by omega] at ih
   by_cases hc : rd l i = a
   · have e2 : decide (a ∈ rd l i :: l.drop (i.toNat + 1)) = true := by simp [hc]
     rw [e2]
     refine Ev.step (fun k => ?_) (Ev.now _)
     rw [spec_l1Has.l0, if_pos (by omega), if_pos h0, if_pos (by omega), if_pos hc]
   · have e2 : decide (a ∈ rd l i :: l.drop (i.toNat + 1)) = decide (a ∈ l.drop (i.toNat + 1)) := by
      have : ¬ a = rd l i := fun h => hc h.symm
      simp [this]
     rw [e2]
     refine Ev.step (fun k => ?_) ih
     rw [spec_l1Has.l0, if_pos (by omega), if_pos h0, if_pos (by omega), if_neg hc, w64 (by omega) (by omega)]
theorem spec_has_ev (l : List Int) (a : Int) (hl : l.length ≤ 9223372036854775806) : Ev (fun k => spec_l1Has.f k l a) (decide (a ∈ l)) := by
 have := spec_has_l0 l a hl l.length 0 (by omega) (by omega)
 simpa [spec_l1Has.f] using this
theorem impl_index_l0 (l : List Int) (a : Int) (hl : l.length ≤ 9223372036854775806) : ∀ (d : Nat) (i : Int), i + d = l.length → 0 ≤ i → ∃ r, Ev (fun k => slices_Index_int_int.l0 k l a (l.length : Int) i) r ∧ decide (r ≥ 0) = decide (a ∈ l.drop i.toNat)
 | 0, i, hd, h0 => by
   refine ⟨-1, Ev.step (fun k => ?_) (Ev.now _), ?_⟩
   · rw [slices_Index_int_int.l0, if_neg (by omega)]
   · rw [List.drop_of_length_le (by omega)]; simp
 | d + 1, i, hd, h0 => by
   have hi : i.toNat < l.length := by omega
   have e : rd l i = l[i.toNat] := by unfold rd; simp [List.getD_eq_getElem?_getD, List.getElem?_eq_getElem hi]
   obtain ⟨r, ih, hr⟩ := impl_index_l0 l a hl d (i + 1) (by omega) (by omega)
   rw [show (i + 1).toNat = i.toNat + 1 by omega] at hr
   rw [List.drop_eq_getElem_cons hi, ← e]
   by_cases hc : a = rd l i
   · refine ⟨i, Ev.step (fun k => ?_) (Ev.now _), ?_⟩
     · rw [slices_Index_int_int.l0, if_pos (by omega), if_pos h0, if_pos (by omega), if_pos hc]
     · simp [hc, h0]
   · refine ⟨r, Ev.step (fun k => ?_) ih, ?_⟩
     · rw [slices_Index_int_int.l0, if_pos (by omega), if_pos h0, if_pos (by omega), if_neg hc, w64 (by omega) (by omega)]
     · rw [hr]; simp [hc]
theorem impl_measures_ev (s l : List Int) (a : Int) (hl : l.length ≤ 9223372036854775806) : Ev (fun k => impl_measures.f k s l a) (decide (a ∈ l)) := by
 obtain ⟨r, hr, h2⟩ := impl_index_l0 l a hl l.length 0 (by omega) (by omega)
 rw [show List.drop (0 : Int).toNat l = l from rfl] at h2
 unfold impl_measures.f slices_Contains_int_int.f slices_Index_int_int.f
 refine Ev.bind (Ev.bind hr (Ev.now _)) ?_
 rw [← h2]
 exact Ev.now _
end Go.Proofs.Ytjllbahhkeglfaa.P
namespace Go.Proofs.Ytjllbahhkeglfaa.P
open Go.RowKit Go.Proofs.YtjllbahhkeglfaaW.PrintWords Go.Proofs.YtjllbahhkeglfaaW.PrintLast Go.Proofs.YtjllbahhkeglfaaW.PrintMore
set_option linter.unusedVariables false
set_option linter.unusedSimpArgs false
/-- Halving: the first number from lo to hi that p doesn't hold of. -/
def bs (p : Nat → Bool) : Nat → Nat → Nat → Nat
 | 0, lo, _ => lo
 | n + 1, lo, hi => if lo < hi then if p ((lo + hi) / 2) = true then bs p n ((lo + hi) / 2 + 1) hi else bs p n lo ((lo + hi) / 2) else lo
theorem bs_more (p : Nat → Bool) : ∀ (n lo hi : Nat), hi - lo ≤ n → bs p (n + 1) lo hi = bs p n lo hi
 | 0, lo, hi, h => by simp [bs]; omega
 | n + 1, lo, hi, h => by
   rw [bs]
   by_cases h1 : lo < hi
   · rw [if_pos h1, bs_more p n _ _ (by omega), bs_more p n _ _ (by omega)]
     conv => rhs; rw [bs, if_pos h1]
   · rw [if_neg h1]
     conv => rhs; rw [bs, if_neg h1]
theorem bs_le (p : Nat → Bool) : ∀ (n lo hi : Nat), lo ≤ hi → bs p n lo hi ≤ hi
 | 0, lo, hi, h => by simpa [bs] using h
 | n + 1, lo, hi, h => by
   rw [bs]
   split
   · split
     · exact bs_le p n _ _ (by omega)
     · exact Nat.le_trans (bs_le p n _ _ (by omega)) (by omega)
   · exact h
def plP (all : List S33) (ord : List Int) (h : List Int) (m : Nat) : Bool := lessP (rd_T33 all (rd ord m)).f1 h
def plLow (all : List S33) (ord : List Int) (h : List Int) : Nat := bs (plP all ord h) ord.length 0 ord.length
def plFound (all : List S33) (ord : List Int) (h : List Int) : Bool := decide (plLow all ord h < ord.length) && decide ((rd_T33 all (rd ord (plLow all ord h))).f1 = h)
/-- What the search knows, to be read. -/
structure Seen (w : World) (g : Nat) (vf vm vd : Value) (Aa Ao : Option Addr) (ca co : Nat) (all : List S33) (ord : List Int) : Prop where
 blk : w.heap[g]? = some (.cells #[.slice Aa all.length ca, vf, vm, vd, .slice Ao ord.length co] 92 (0, 0))
 hca : Kd.C k33 w Aa all.length all
 hco : Kd.C (Kd.int .i64) w Ao ord.length ord
theorem Seen.below {w w1 : World} {g : Nat} {vf vm vd : Value} {Aa Ao : Option Addr} {ca co : Nat} {all : List S33} {ord : List Int} (h : Seen w g vf vm vd Aa Ao ca co all ord) (hb : Below w.heap.size w w1) : Seen w1 g vf vm vd Aa Ao ca co all ord :=
 ⟨blk_below h.blk hb, Kd.C_below h.hca hb, Kd.C_below h.hco hb⟩
set_option maxHeartbeats 1600000 in
set_option maxRecDepth 100000 in
theorem spec_plPlace.calls (g : Nat) (vf vm vd : Value) (Aa Ao : Option Addr) (ca co : Nat) (all : List S33) (ord : List Int) (A0 A1 : Option Addr) (c0 c1 : Nat) (l0 l1 : List Int) (w : World) (S : Seen w g vf vm vd Aa Ao ca co all ord)
 (hr0 : Kd.C (Kd.int .i64) w A0 l0.length l0) (hc0 : l0.length ≤ c0) (hr1 : Kd.C (Kd.int .i64) w A1 l1.length l1) (hc1 : l1.length ≤ c1)
 (h5 : l1.length ≤ 5) (hn : ord.length ≤ 100000) (hord : ∀ j : Int, 0 ≤ j → j < ord.length → 0 ≤ rd ord j ∧ rd ord j < all.length) (hall : ∀ j : Int, 0 ≤ j → j < all.length → (rd_T33 all j).f1.length = l1.length) :
 Calls Try.prog 102 #[.pointer (some ⟨g, 0, none⟩), .agg #[.slice A0 l0.length c0, .slice A1 l1.length c1]] w fun e w' => e = .returned (.tuple #[.int .i64 (plLow all ord l1), .bool (plFound all ord l1)]) ∧ Below w.heap.size w w' := by
 have HS := Aside0.mk S
 have HR0 := Aside0.mk hr0
 have HR1 := Aside0.mk hr1
 have HC0 := Aside0.mk hc0
 have HC1 := Aside0.mk hc1
 have HORD := Lib.hid hord
 have HALL := Lib.hid hall
 have hb0 := blk_cell S.blk 0
 have hb4 := blk_cell S.blk 4
 simp at hb0 hb4
 have hglt := blk_lt S.blk
 generalize hL : l0.length = n0
 have HL0 := Aside0.mk hL
 clear hL S hr0 hr1 hc0 hc1 hord hall
 have hu92 := Try.underlying92
 have hu33 := Try.underlying33
 go_enter Try.func102, Try.ntmps102
 go_wp2
 go_quiet (fail)
 go_wp2
 go_loopg [6, 7] ord.length (fun gg s6 s7 wr => ∃ lo hi : Nat, lo ≤ hi ∧ hi ≤ ord.length ∧ hi - lo ≤ gg ∧ s6 = .int .i64 lo ∧ s7 = .int .i64 hi ∧ Aside0 (bs (plP all ord l1) gg lo hi = plLow all ord l1) ∧ Aside0 (Below (w.heap.size + 1) (w.alloc (.cells #[.slice A0 n0 c0, .slice A1 l1.length c1] 33)) wr))
 case atStart => exact ⟨0, ord.length, Nat.zero_le _, Nat.le_refl _, Nat.le_refl _, rfl, rfl, ⟨rfl⟩, ⟨pw_below_drewN (Below.refl _ _) _⟩⟩
 case round =>
  obtain ⟨lo, hi, hlh, hhn, hgg, rfl, rfl, HQ, HB⟩ := hrel
  have hbw : Below w.heap.size w wr := (below_alloc (Below.refl _ _) _).trans (HB.out.mono (by omega))
  have HBW := Aside0.mk hbw
  have hbx : wr.heap[w.heap.size]? = some (.cells #[.slice A0 n0 c0, .slice A1 l1.length c1] 33 (0, 0)) := (HB.out.block w.heap.size (by omega)).trans (blk_new _ _)
  have hx0 := blk_cell hbx 0
  have hx1 := blk_cell hbx 1
  simp at hx0 hx1
  have S1 := HS.out.below hbw
  have hg0 := blk_cell S1.blk 0
  have hg4 := blk_cell S1.blk 4
  simp at hg0 hg4
  clear hb0 hb4
  by_cases hlt : lo < hi
  · have hm1 : (lo + hi) / 2 < hi := by omega
    have hm0 : lo ≤ (lo + hi) / 2 := by omega
    have hmi : ((lo : Int) + (hi : Int)) / 2 = (((lo + hi) / 2 : Nat) : Int) := by omega
    have hltz : (lo : Int) < (hi : Int) := by omega
    have hi0 : (0 : Int) ≤ ((lo : Int) + (hi : Int)) / 2 := by omega
    have hi1 : ((lo : Int) + (hi : Int)) / 2 < (ord.length : Int) := by omega
    have hi2 : (((lo : Int) + (hi : Int)) / 2).toNat = (lo + hi) / 2 := by omega
    obtain ⟨ao, eo, ho⟩ := Kd.at_int S1.hco (((lo + hi) / 2 : Nat) : Int) (by omega) (by omega)
    subst eo
    have hrange := HORD.out (((lo + hi) / 2 : Nat) : Int) (by omega) (by omega)
    generalize hx : rd ord (((lo + hi) / 2 : Nat) : Int) = x at ho hrange
    have HX := Aside0.mk hx
    clear hx hmi
    rw [Int.toNat_natCast] at ho
    obtain ⟨xl, xr⟩ := hrange
    obtain ⟨aa, B0, d0, B1, d1, ea, hy0, hy1, hd0, hz0, hd1, hz1⟩ := at_T33 S1.hca x xl xr
    subst ea
    have hlen := HALL.out x xl xr
    obtain ⟨k, hk⟩ := (spec_less_ev (rd_T33 all x).f0 (rd_T33 all x).f1 l0 l1 hlen (by omega)).rounds
    have HCALL : Aside0 (∀ W, Below wr.heap.size wr W → Calls Try.prog 148 #[.agg #[.slice B0 (rd_T33 all x).f0.length d0, .slice B1 (rd_T33 all x).f1.length d1], .agg #[.slice A0 n0 c0, .slice A1 l1.length c1]] W fun e w' => e = .returned (.bool (lessP (rd_T33 all x).f1 l1)) ∧ Below W.heap.size W w') :=
     ⟨fun W hW => by
       have h1 := spec_plLess.calls k B0 d0 (rd_T33 all x).f0 B1 d1 (rd_T33 all x).f1 A0 c0 l0 A1 c1 l1 _ W (Kd.C_below hz0 hW) hd0 (Kd.C_below hz1 hW) hd1 (Kd.C_below (Kd.C_below HR0.out HBW.out) hW) HC0.out (Kd.C_below (Kd.C_below HR1.out HBW.out) hW) HC1.out hk
       rwa [HL0.out] at h1⟩
    have HLESS := Aside0.mk (show plP all ord l1 ((lo + hi) / 2) = lessP (rd_T33 all x).f1 l1 by unfold plP; rw [HX.out])
    clear hd0 hz0 hd1 hz1 hk hlen S1 hbx hbw
    generalize (rd_T33 all x).f0.length = q0 at hy0 HCALL
    generalize (rd_T33 all x).f1.length = q1 at hy1 HCALL
    generalize lessP (rd_T33 all x).f1 l1 = b at HCALL HLESS
    have HCT : Hid (∀ W, Below wr.heap.size wr W → Calls Try.prog 148 #[.agg #[.slice B0 q0 d0, .slice B1 q1 d1], .agg #[.slice A0 n0 c0, .slice A1 l1.length c1]] W fun e w' => e = .returned (.bool b) ∧ Below W.heap.size W w') := HCALL.out
    go_wp2
    go_region_held3 (fun w' => w'.cell? ⟨g, 0, none⟩ = some (.slice (some aa) all.length ca) ∧ w'.cell? ⟨g, 4, none⟩ = some (.slice (some ao) ord.length co) ∧ w'.cell? (ao.add ((lo + hi) / 2)) = some (.int .i64 x) ∧ w'.cell? (aa.add (x.toNat * 2)) = some (.slice B0 q0 d0) ∧ w'.cell? ⟨(aa.add (x.toNat * 2)).block, (aa.add (x.toNat * 2)).off + 1, none⟩ = some (.slice B1 q1 d1) ∧ w'.cell? ⟨w.heap.size, 0, none⟩ = some (.slice A0 n0 c0) ∧ w'.cell? ⟨w.heap.size, 1, none⟩ = some (.slice A1 l1.length c1))
     (first | exact ⟨hg0, hg4, ho, hy0, hy1, hx0, hx1⟩ | go_keep | exact ⟨pw_cell_below hb' hg0, pw_cell_below hb' hg4, pw_cell_below hb' ho, pw_cell_below hb' hy0, pw_cell_below hb' hy1, pw_cell_below hb' hx0, pw_cell_below hb' hx1⟩)
     (first | (go_at_call 148; refine (HCT.out _ (below_drew (Below.refl _ _))).mono ?_; rintro e w' ⟨rfl, hb'⟩))
    have hbB := hb'
    have HB2 := Aside0.mk (HB.out.trans ((below_drew (Below.refl wr.heap.size wr)).trans hb' |>.mono (show w.heap.size + 1 ≤ wr.heap.size by have := HB.out.size; simp at this; omega)))
    clear hb' hbB
    obtain ⟨n1, rfl⟩ : ∃ n1, gk = n1 + 1 := ⟨gk - 1, by omega⟩
    have hq := HQ.out
    rw [bs, if_pos hlt, HLESS.out] at hq
    have HQ1 := Aside0.mk hq
    clear hq
    cases b with
    | true =>
      go_wp2
      go_roundg n1
      case measure => omega
      case rel => exact ⟨(lo + hi) / 2 + 1, hi, by omega, hhn, by omega, by go_num, rfl, ⟨by have h := HQ1.out; simpa using h⟩, HB2⟩
    | false =>
      go_wp2
      go_roundg n1
      case measure => omega
      case rel => exact ⟨lo, (lo + hi) / 2, by omega, by omega, by omega, rfl, by go_num, ⟨by have h := HQ1.out; rwa [if_neg (by simp)] at h⟩, HB2⟩
  · have hlo : lo = hi := by omega
    subst hlo
    have hres : plLow all ord l1 = lo := by
     have h := HQ.out
     cases gk with
     | zero => simpa [bs] using h.symm
     | succ k => rw [bs, if_neg (by omega)] at h; exact h.symm
    have HRES := Aside0.mk hres
    clear hres HQ hgg
    have hltz : ¬ (lo : Int) < (lo : Int) := by omega
    by_cases hend : lo < ord.length
    · obtain ⟨ao, eo, ho⟩ := Kd.at_int S1.hco (lo : Int) (by omega) (by omega)
      subst eo
      have hrange := HORD.out (lo : Int) (by omega) (by omega)
      generalize hx : rd ord (lo : Int) = x at ho hrange
      have HX := Aside0.mk hx
      clear hx
      rw [Int.toNat_natCast] at ho
      obtain ⟨xl, xr⟩ := hrange
      obtain ⟨aa, B0, d0, B1, d1, ea, hy0, hy1, hd0, hz0, hd1, hz1⟩ := at_T33 S1.hca x xl xr
      subst ea
      have hlen := HALL.out x xl xr
      obtain ⟨k, hk⟩ := (spec_same_ev (rd_T33 all x).f0 (rd_T33 all x).f1 l0 l1 hlen (by omega)).rounds
      have HCALL : Aside0 (∀ W, Below wr.heap.size wr W → Calls Try.prog 124 #[.agg #[.slice B0 (rd_T33 all x).f0.length d0, .slice B1 (rd_T33 all x).f1.length d1], .agg #[.slice A0 n0 c0, .slice A1 l1.length c1]] W fun e w' => e = .returned (.bool (decide ((rd_T33 all x).f1 = l1))) ∧ Below W.heap.size W w') :=
       ⟨fun W hW => by
         have h1 := spec_veSame.calls k B0 d0 (rd_T33 all x).f0 B1 d1 (rd_T33 all x).f1 A0 c0 l0 A1 c1 l1 _ W (Kd.C_below hz0 hW) hd0 (Kd.C_below hz1 hW) hd1 (Kd.C_below (Kd.C_below HR0.out HBW.out) hW) HC0.out (Kd.C_below (Kd.C_below HR1.out HBW.out) hW) HC1.out hk
         rwa [HL0.out] at h1⟩
      have HSAME := Aside0.mk (show plFound all ord l1 = decide ((rd_T33 all x).f1 = l1) by unfold plFound; rw [HRES.out, HX.out, decide_eq_true hend, Bool.true_and])
      clear hd0 hz0 hd1 hz1 hk hlen S1 hbx hbw
      generalize (rd_T33 all x).f0.length = q0 at hy0 HCALL
      generalize (rd_T33 all x).f1.length = q1 at hy1 HCALL
      generalize decide ((rd_T33 all x).f1 = l1) = b at HCALL HSAME
      have HCT : Hid (∀ W, Below wr.heap.size wr W → Calls Try.prog 124 #[.agg #[.slice B0 q0 d0, .slice B1 q1 d1], .agg #[.slice A0 n0 c0, .slice A1 l1.length c1]] W fun e w' => e = .returned (.bool b) ∧ Below W.heap.size W w') := HCALL.out
      have hl1 : (lo : Int) < (ord.length : Int) := by omega
      have hl2 : decide (lo < ord.length) = true := decide_eq_true hend
      have hl0 : (0 : Int) ≤ (lo : Int) := by omega
      go_wp2
      go_region_held3 (fun w' => w'.cell? ⟨g, 0, none⟩ = some (.slice (some aa) all.length ca) ∧ w'.cell? ⟨g, 4, none⟩ = some (.slice (some ao) ord.length co) ∧ w'.cell? (ao.add lo) = some (.int .i64 x) ∧ w'.cell? (aa.add (x.toNat * 2)) = some (.slice B0 q0 d0) ∧ w'.cell? ⟨(aa.add (x.toNat * 2)).block, (aa.add (x.toNat * 2)).off + 1, none⟩ = some (.slice B1 q1 d1) ∧ w'.cell? ⟨w.heap.size, 0, none⟩ = some (.slice A0 n0 c0) ∧ w'.cell? ⟨w.heap.size, 1, none⟩ = some (.slice A1 l1.length c1))
       (first | exact ⟨hg0, hg4, ho, hy0, hy1, hx0, hx1⟩ | go_keep | exact ⟨pw_cell_below hb' hg0, pw_cell_below hb' hg4, pw_cell_below hb' ho, pw_cell_below hb' hy0, pw_cell_below hb' hy1, pw_cell_below hb' hx0, pw_cell_below hb' hx1⟩)
       (first | (go_at_call 124; refine (HCT.out _ (below_drew (Below.refl _ _))).mono ?_; rintro e w' ⟨rfl, hb'⟩))
      go_wp2
      go_ret2
      exact ⟨by rw [HRES.out, HSAME.out]; rfl, below_step HBW.out ((below_drew (Below.refl wr.heap.size wr)).trans hb')⟩
    · have hl1 : ¬ (lo : Int) < (ord.length : Int) := by omega
      have hl2 : decide (lo < ord.length) = false := decide_eq_false hend
      have HF := Aside0.mk (show plFound all ord l1 = false by unfold plFound; rw [HRES.out, decide_eq_false hend, Bool.false_and])
      clear S1 hbx hbw
      go_wp2
      go_quiet (fail)
      go_wp2
      go_ret2
      exact ⟨by rw [HRES.out, HF.out]; rfl, pw_below_drewN HBW.out _⟩
end Go.Proofs.Ytjllbahhkeglfaa.P
namespace Go.Proofs.Ytjllbahhkeglfaa.P
open Go.RowKit Go.Proofs.YtjllbahhkeglfaaW.PrintWords Go.Proofs.YtjllbahhkeglfaaW.PrintLast Go.Proofs.YtjllbahhkeglfaaW.PrintMore
set_option linter.unusedVariables false
set_option linter.unusedSimpArgs false
structure Srch where
 all : List S33
 fr : List Int
 ms : List S56
 far : List Int
 ord : List Int
def insAt (l : List Int) (k : Nat) (x : Int) : List Int := l.take k ++ x :: l.drop k
def sAdd (r : Srch) (i : Nat) (m : S56) (nx : S33) (k : Nat) : Srch :=
 ⟨r.all ++ [nx], r.fr ++ [(i : Int)], r.ms ++ [m], r.far ++ [rd r.far i + 1], insAt r.ord k (r.all.length : Int)⟩
def nxt (s : List Int) (x : S33) (m : S56) : List Int := beh s x.f1 m.f0 m.f1
/-- A round over the moves from vessels number i: none if there are too many. -/
def sVis (s : List Int) (i : Nat) : List S56 → Srch → Option Srch
 | [], r => some r
 | m :: l, r =>
   let nx := nxt s (rd_T33 r.all i) m
   if plFound r.all r.ord nx = true then sVis s i l r
   else if 3000 < r.all.length + 1 then none
   else sVis s i l (sAdd r i m ⟨s, nx⟩ (plLow r.all r.ord nx))
def sBfs (s : List Int) (c : Bool) : Nat → Nat → Srch → Option Srch
 | 0, _, r => some r
 | n + 1, i, r => if i < r.all.length then (sVis s i (movesP s (rd_T33 r.all i).f1 c) r).bind (sBfs s c n (i + 1)) else some r
def sStart (s h : List Int) : Srch := ⟨[⟨s, h⟩], [-1], [⟨0, 0⟩], [0], [0]⟩
/-- What stays so in a search. -/
structure SInv (s : List Int) (r : Srch) : Prop where
 n1 : 1 ≤ r.all.length
 n2 : r.all.length ≤ 3000
 l1 : r.fr.length = r.all.length
 l2 : r.ms.length = r.all.length
 l3 : r.far.length = r.all.length
 l4 : r.ord.length = r.all.length
 good : ∀ x ∈ r.all, x.f0 = s ∧ Good s x.f1
 ordr : ∀ x ∈ r.ord, 0 ≤ x ∧ x < r.all.length
 farr : ∀ j : Int, 0 ≤ j → j < r.all.length → 0 ≤ rd r.far j ∧ rd r.far j ≤ j
 frr : ∀ j : Int, 0 ≤ j → j < r.all.length → rd r.fr j < j
theorem rdT_mem {l : List S33} {i : Int} (h0 : 0 ≤ i) (h1 : i < l.length) : rd_T33 l i ∈ l := by
 unfold rd_T33
 rw [List.getD_eq_getElem?_getD, List.getElem?_eq_getElem (by omega : i.toNat < l.length)]
 exact List.getElem_mem _
theorem SInv.at_ {s : List Int} {r : Srch} (I : SInv s r) {i : Int} (h0 : 0 ≤ i) (h1 : i < r.all.length) : (rd_T33 r.all i).f0 = s ∧ Good s (rd_T33 r.all i).f1 := I.good _ (rdT_mem h0 h1)
theorem SInv.ord_ {s : List Int} {r : Srch} (I : SInv s r) {i : Int} (h0 : 0 ≤ i) (h1 : i < r.ord.length) : 0 ≤ rd r.ord i ∧ rd r.ord i < r.all.length := I.ordr _ (mem_rd h0 h1)
theorem insAt_length (l : List Int) (k : Nat) (x : Int) (h : k ≤ l.length) : (insAt l k x).length = l.length + 1 := by
 unfold insAt; simp; omega
theorem mem_insAt {l : List Int} {k : Nat} {x y : Int} : y ∈ insAt l k x ↔ y = x ∨ y ∈ l := by
 unfold insAt
 have h := List.take_append_drop k l
 constructor
 · intro hy
   rcases List.mem_append.1 hy with hy | hy
   · exact .inr (List.mem_of_mem_take hy)
   · rcases List.mem_cons.1 hy with hy | hy
     · exact .inl hy
     · exact .inr (List.mem_of_mem_drop hy)
 · rintro (rfl | hy)
   · simp
   · rw [← h, List.mem_append] at hy
     rcases hy with hy | hy
     · exact List.mem_append_left _ hy
     · exact List.mem_append_right _ (List.mem_cons_of_mem _ hy)
theorem rd_append_lt {l m : List Int} {j : Int} (h0 : 0 ≤ j) (h1 : j < l.length) : rd (l ++ m) j = rd l j := by
 unfold rd
 rw [List.getD_eq_getElem?_getD, List.getD_eq_getElem?_getD, List.getElem?_append_left (by omega)]
theorem rd_append_eq {l : List Int} {x j : Int} (h1 : j = l.length) : rd (l ++ [x]) j = x := by
 unfold rd
 rw [List.getD_eq_getElem?_getD, List.getElem?_append_right (by omega)]
 simp [h1]
theorem plLow_le (all : List S33) (ord h : List Int) : plLow all ord h ≤ ord.length := bs_le _ _ _ _ (Nat.zero_le _)
theorem SInv.add {s : List Int} {r : Srch} (I : SInv s r) {i : Nat} (hi : i < r.all.length) (m : S56) {nx : List Int} (hG : Good s nx) {k : Nat} (hk : k ≤ r.ord.length) (hn : r.all.length + 1 ≤ 3000) : SInv s (sAdd r i m ⟨s, nx⟩ k) := by
 have hf := I.farr i (by omega) (by omega)
 refine ⟨by simp [sAdd], by simp [sAdd]; omega, by simp [sAdd, I.l1], by simp [sAdd, I.l2], by simp [sAdd, I.l3], by simp [sAdd, insAt_length _ _ _ hk, I.l4], ?_, ?_, ?_, ?_⟩
 · intro x hx
   rcases List.mem_append.1 hx with hx | hx
   · exact I.good x hx
   · rw [List.mem_singleton] at hx
     subst hx
     exact ⟨rfl, hG⟩
 · intro x hx
   rcases mem_insAt.1 hx with rfl | hx
   · simp [sAdd]; omega
   · have := I.ordr x hx
     simp [sAdd]; omega
 · intro j j0 j1
   have j1' : j < r.all.length + 1 := by simpa [sAdd] using j1
   have l3 := I.l3
   show 0 ≤ rd (r.far ++ [rd r.far i + 1]) j ∧ rd (r.far ++ [rd r.far i + 1]) j ≤ j
   by_cases h : j < r.all.length
   · rw [rd_append_lt j0 (by omega)]; exact I.farr j j0 h
   · rw [rd_append_eq (by omega)]; omega
 · intro j j0 j1
   have j1' : j < r.all.length + 1 := by simpa [sAdd] using j1
   have l1 := I.l1
   show rd (r.fr ++ [(i : Int)]) j < j
   by_cases h : j < r.all.length
   · rw [rd_append_lt j0 (by omega)]; exact I.frr j j0 h
   · rw [rd_append_eq (by omega)]; omega
theorem SInv.start {s h : List Int} (G : Good s h) : SInv s (sStart s h) := by
 refine ⟨by simp [sStart], by simp [sStart], rfl, rfl, rfl, rfl, ?_, ?_, ?_, ?_⟩
 · intro x hx
   have : x = ⟨s, h⟩ := by simpa [sStart] using hx
   subst this
   exact ⟨rfl, G⟩
 · intro x hx
   have : x = 0 := by simpa [sStart] using hx
   subst this
   simp [sStart]
 · intro j j0 j1
   have : j = 0 := by simp [sStart] at j1; omega
   subst this
   simp [sStart, rd]
 · intro j j0 j1
   have : j = 0 := by simp [sStart] at j1; omega
   subst this
   simp [sStart, rd]
theorem sVis_inv {s : List Int} {i : Nat} {X : S33} : ∀ (l : List S56) (r r' : Srch), SInv s r → i < r.all.length → rd_T33 r.all i = X → (∀ m ∈ l, isMv s.length m.f0 m.f1) → sVis s i l r = some r' → SInv s r' ∧ i < r'.all.length ∧ rd_T33 r'.all i = X
 | [], r, r', I, hi, hX, hm, h => by injection h with h; exact h ▸ ⟨I, hi, hX⟩
 | m :: l, r, r', I, hi, hX, hm, h => by
   rw [sVis] at h
   have G := (I.at_ (i := (i : Int)) (by omega) (by omega)).2
   split at h
   · exact sVis_inv l r r' I hi hX (fun m hm2 => hm m (List.mem_cons_of_mem _ hm2)) h
   · split at h
     · cases h
     · refine sVis_inv l _ r' (I.add hi m (beh_good G (hm m (List.mem_cons_self ..))) (plLow_le _ _ _) (by omega)) ?_ ?_ (fun m hm2 => hm m (List.mem_cons_of_mem _ hm2)) h
       · simp [sAdd]; omega
       · show rd_T33 (r.all ++ [_]) i = X
         rw [← hX]
         unfold rd_T33
         rw [List.getD_eq_getElem?_getD, List.getD_eq_getElem?_getD, List.getElem?_append_left (by omega)]
theorem sBfs_inv {s : List Int} {c : Bool} : ∀ (n i : Nat) (r r' : Srch), SInv s r → sBfs s c n i r = some r' → SInv s r'
 | 0, _, r, r', I, h => by injection h with h; exact h ▸ I
 | n + 1, i, r, r', I, h => by
   rw [sBfs] at h
   split at h
   · rename_i hi
     obtain ⟨r2, h2, h3⟩ := Option.bind_eq_some_iff.1 h
     exact sBfs_inv n (i + 1) r2 r' (sVis_inv _ r r2 I hi rfl (fun m hm => (movesP_mem hm).1) h2).1 h3
   · injection h with h; exact h ▸ I
theorem rdT_append_lt {l m : List S33} {j : Int} (h0 : 0 ≤ j) (h1 : j < l.length) : rd_T33 (l ++ m) j = rd_T33 l j := by
 unfold rd_T33
 rw [List.getD_eq_getElem?_getD, List.getD_eq_getElem?_getD, List.getElem?_append_left (by omega)]
end Go.Proofs.Ytjllbahhkeglfaa.P
namespace Go.Proofs.Ytjllbahhkeglfaa.P
open Go.RowKit Go.Proofs.YtjllbahhkeglfaaW.PrintWords Go.Proofs.YtjllbahhkeglfaaW.PrintLast Go.Proofs.YtjllbahhkeglfaaW.PrintMore
set_option linter.unusedVariables false
set_option linter.unusedSimpArgs false
/-- Blocks from n on have the colour i. -/
def upd (c : Nat → Nat) (n i : Nat) : Nat → Nat := fun k => if k < n then c k else i
theorem upd_lt {c : Nat → Nat} {n i k : Nat} (h : k < n) : upd c n i k = c k := if_pos h
theorem upd_ge {c : Nat → Nat} {n i k : Nat} (h : n ≤ k) : upd c n i k = i := if_neg (by omega)
/-- The row of vessels (1), and what its elements lead to (6). -/
def ok1 (c : Nat → Nat) : Nat → Prop := fun k => c k = 1 ∨ c k = 6
section
variable {α : Type} {d : Kd α} {e base i j n : Nat} {c c' : Nat → Nat} {w w1 : World} {v u : Value} {xs : List α}
theorem N2_col (h : Kd.N d e w base (ok1 c) v xs) (hc : ∀ k, k < w.heap.size → c' k = c k) : Kd.N d e w base (ok1 c') v xs := Kd.N_mono (Kd.N_bound h) (fun k hk => by unfold ok1; rw [hc k hk.2]; exact hk.1)
theorem R_col (h : Kd.R d e w base (fun k => c k = i) v xs) (hc : ∀ k, k < w.heap.size → c' k = c k) : Kd.R d e w base (fun k => c' k = i) v xs := Kd.R_mono (Kd.R_bound h) (fun k hk => (hc k hk.2.2.1).trans hk.1)
theorem N2_upd (h : Kd.N d e w base (ok1 c) v xs) (j : Nat) : Kd.N d e w base (ok1 (upd c w.heap.size j)) v xs := N2_col h (fun k hk => upd_lt hk)
theorem R_upd (h : Kd.R d e w base (fun k => c k = i) v xs) (j : Nat) : Kd.R d e w base (fun k => upd c w.heap.size j k = i) v xs := R_col h (fun k hk => upd_lt hk)
/-- Another colour's row has been written. -/
theorem N2_oth (h : Kd.N d e w base (ok1 c) v xs) (hu : ∀ k, u.ownBlock = some k → c k = j) (h1 : 1 ≠ j) (h6 : 6 ≠ j) (hg : w.grownBy w1 u.ownBlock) : Kd.N d e w1 base (ok1 c) v xs :=
 Kd.N_grown h hg (fun k hk e => hk.elim (fun h => h1 (h.symm.trans (hu k e.symm))) (fun h => h6 (h.symm.trans (hu k e.symm))))
theorem R_oth (h : Kd.R d e w base (fun k => c k = i) v xs) (hu : ∀ k, u.ownBlock = some k → c k = j) (hij : i ≠ j) (hg : w.grownBy w1 u.ownBlock) : Kd.R d e w1 base (fun k => c k = i) v xs :=
 Kd.R_grown h hg (fun k hk e => hij (hk.symm.trans (hu k e.symm)))
/-- A block of another colour has been written. -/
theorem N2_blk (h : Kd.N d e w base (ok1 c) v xs) {g : Nat} (hg : c g = j) (h1 : 1 ≠ j) (h6 : 6 ≠ j) (hk : ∀ k, k < w.heap.size → k ≠ g → w1.heap[k]? = w.heap[k]?) : Kd.N d e w1 base (ok1 c) v xs :=
 Kd.N_step h (fun k hk1 hk2 => hk k hk2 (fun e => hk1.elim (fun h => h1 (h.symm.trans (e ▸ hg))) (fun h => h6 (h.symm.trans (e ▸ hg)))))
theorem R_blk (h : Kd.R d e w base (fun k => c k = i) v xs) {g : Nat} (hg : c g = j) (hij : i ≠ j) (hk : ∀ k, k < w.heap.size → k ≠ g → w1.heap[k]? = w.heap[k]?) : Kd.R d e w1 base (fun k => c k = i) v xs :=
 Kd.R_step h (fun k hk1 hk2 => hk k hk2 (fun e => hij (hk1.symm.trans (e ▸ hg))))
end
theorem cell_far {w : World} {p a : Addr} {v u : Value} (h : w.cell? a = some v) (hne : a.block ≠ p.block) : (w.setCell p u).cell? a = some v := by
 rw [World.cell?_of_block (w := w) (Below.heap_setCell w p u a.block hne)]; exact h
theorem FK_col {α : Type} {d : Kd α} {W : World} {c c' : Nat → Nat} {i : Nat} {x : α} {cs : List Value} (h : Kd.FK d W (fun k => c k = i) x cs) (hc : ∀ k, k < W.heap.size → c' k = c k) : Kd.FK d W (fun k => c' k = i) x cs := Kd.FK_mono (Kd.FK_bound h) (fun k hk => (hc k hk.2).trans hk.1)
/-- The search's memory (spec): block g holds the five rows' values; a sixth row, of moves, lies beside. -/
structure Mem (w0 w : World) (g : Nat) (c : Nat → Nat) (va vf vm vd vo vl : Value) (all : List S33) (fr : List Int) (ms : List S56) (far ord : List Int) (ls : List S56) : Prop where
 blk : w.heap[g]? = some (.cells #[va, vf, vm, vd, vo] 92 (0, 0))
 cg : c g = 9
 gb : w0.heap.size ≤ g
 a1 : ∀ k, va.ownBlock = some k → c k = 1
 na : Kd.N k33 33 w w0.heap.size (ok1 c) va all
 nf : Kd.R (Kd.int .i64) 3 w w0.heap.size (fun k => c k = 2) vf fr
 nm : Kd.R k56 56 w w0.heap.size (fun k => c k = 3) vm ms
 nd : Kd.R (Kd.int .i64) 3 w w0.heap.size (fun k => c k = 4) vd far
 no : Kd.R (Kd.int .i64) 3 w w0.heap.size (fun k => c k = 5) vo ord
 nl : Kd.R k56 56 w w0.heap.size (fun k => c k = 7) vl ls
 bel : Below w0.heap.size w0 w
section
variable {w0 w w1 : World} {g : Nat} {c : Nat → Nat} {va vf vm vd vo vl : Value} {all : List S33} {fr : List Int} {ms : List S56} {far ord : List Int} {ls : List S56}
theorem Mem.upd (M : Mem w0 w g c va vf vm vd vo vl all fr ms far ord ls) (j : Nat) : Mem w0 w g (upd c w.heap.size j) va vf vm vd vo vl all fr ms far ord ls :=
 ⟨M.blk, (upd_lt (blk_lt M.blk)).trans M.cg, M.gb, fun k hk => (upd_lt (Kd.N_lt M.na k hk)).trans (M.a1 k hk), N2_upd M.na j, R_upd M.nf j, R_upd M.nm j, R_upd M.nd j, R_upd M.no j, R_upd M.nl j, M.bel⟩
theorem Mem.below (M : Mem w0 w g c va vf vm vd vo vl all fr ms far ord ls) (hb : Below w.heap.size w w1) : Mem w0 w1 g c va vf vm vd vo vl all fr ms far ord ls :=
 ⟨blk_below M.blk hb, M.cg, M.gb, M.a1, Kd.N_below M.na hb, Kd.R_below M.nf hb, Kd.R_below M.nm hb, Kd.R_below M.nd hb, Kd.R_below M.no hb, Kd.R_below M.nl hb, below_step M.bel hb⟩
theorem Mem.list (M : Mem w0 w g c va vf vm vd vo vl all fr ms far ord ls) {v : Value} {l : List S56} (h : Kd.R k56 56 w w0.heap.size (fun k => c k = 7) v l) : Mem w0 w g c va vf vm vd vo v all fr ms far ord l := ⟨M.blk, M.cg, M.gb, M.a1, M.na, M.nf, M.nm, M.nd, M.no, h, M.bel⟩
theorem Mem.set0 (M : Mem w0 w g c va vf vm vd vo vl all fr ms far ord ls) (v : Value) (l : List S33) (h : Kd.N k33 33 w w0.heap.size (ok1 c) v l) (ha1 : ∀ k, v.ownBlock = some k → c k = 1) : Mem w0 (w.setCell ⟨g, 0, none⟩ v) g c v vf vm vd vo vl l fr ms far ord ls := by
 have hk : ∀ k, k < w.heap.size → k ≠ g → (w.setCell ⟨g, 0, none⟩ v).heap[k]? = w.heap[k]? := fun k _ hne => Below.heap_setCell w _ v k hne
 exact ⟨by simpa using blk_set M.blk 0 v, M.cg, M.gb, ha1, N2_blk h M.cg (by decide) (by decide) hk, R_blk M.nf M.cg (by decide) hk, R_blk M.nm M.cg (by decide) hk, R_blk M.nd M.cg (by decide) hk, R_blk M.no M.cg (by decide) hk, R_blk M.nl M.cg (by decide) hk, M.bel.setCell M.gb _⟩
/-- A row grows, and the variable's field takes it. -/
theorem Mem.app0 (M : Mem w0 w g c va vf vm vd vo vl all fr ms far ord ls) (v : Value) (l : List S33) (hg : w.grownBy w1 va.ownBlock) (hb : Below w0.heap.size w0 w1) (h : Kd.N k33 33 w1 w0.heap.size (ok1 c) v l) (ha1 : ∀ k, v.ownBlock = some k → c k = 1) : Mem w0 (w1.setCell ⟨g, 0, none⟩ v) g c v vf vm vd vo vl l fr ms far ord ls := by
 have hk : ∀ k, k < w1.heap.size → k ≠ g → (w1.setCell ⟨g, 0, none⟩ v).heap[k]? = w1.heap[k]? := fun k _ hne => Below.heap_setCell w1 _ v k hne
 have hb1 := blk_grown M.blk hg (fun e => absurd ((M.a1 g e.symm).symm.trans M.cg) (by decide))
 exact ⟨by simpa using blk_set hb1 0 v, M.cg, M.gb, ha1, N2_blk h M.cg (by decide) (by decide) hk, R_blk (R_oth M.nf M.a1 (by decide) hg) M.cg (by decide) hk, R_blk (R_oth M.nm M.a1 (by decide) hg) M.cg (by decide) hk, R_blk (R_oth M.nd M.a1 (by decide) hg) M.cg (by decide) hk, R_blk (R_oth M.no M.a1 (by decide) hg) M.cg (by decide) hk, R_blk (R_oth M.nl M.a1 (by decide) hg) M.cg (by decide) hk, hb.setCell M.gb _⟩
theorem Mem.set1 (M : Mem w0 w g c va vf vm vd vo vl all fr ms far ord ls) (v : Value) (l : List Int) (h : Kd.R (Kd.int .i64) 3 w w0.heap.size (fun k => c k = 2) v l) : Mem w0 (w.setCell ⟨g, 1, none⟩ v) g c va v vm vd vo vl all l ms far ord ls := by
 have hk : ∀ k, k < w.heap.size → k ≠ g → (w.setCell ⟨g, 1, none⟩ v).heap[k]? = w.heap[k]? := fun k _ hne => Below.heap_setCell w _ v k hne
 exact ⟨by simpa using blk_set M.blk 1 v, M.cg, M.gb, M.a1, N2_blk M.na M.cg (by decide) (by decide) hk, R_blk h M.cg (by decide) hk, R_blk M.nm M.cg (by decide) hk, R_blk M.nd M.cg (by decide) hk, R_blk M.no M.cg (by decide) hk, R_blk M.nl M.cg (by decide) hk, M.bel.setCell M.gb _⟩
/-- A row grows, and the variable's field takes it. -/
theorem Mem.app1 (M : Mem w0 w g c va vf vm vd vo vl all fr ms far ord ls) (v : Value) (l : List Int) (hg : w.grownBy w1 vf.ownBlock) (hb : Below w0.heap.size w0 w1) (h : Kd.R (Kd.int .i64) 3 w1 w0.heap.size (fun k => c k = 2) v l) : Mem w0 (w1.setCell ⟨g, 1, none⟩ v) g c va v vm vd vo vl all l ms far ord ls := by
 have hk : ∀ k, k < w1.heap.size → k ≠ g → (w1.setCell ⟨g, 1, none⟩ v).heap[k]? = w1.heap[k]? := fun k _ hne => Below.heap_setCell w1 _ v k hne
 have hb1 := blk_grown M.blk hg (fun e => absurd ((M.nf.1 g e.symm).symm.trans M.cg) (by decide))
 exact ⟨by simpa using blk_set hb1 1 v, M.cg, M.gb, M.a1, N2_blk (N2_oth M.na M.nf.1 (by decide) (by decide) hg) M.cg (by decide) (by decide) hk, R_blk h M.cg (by decide) hk, R_blk (R_oth M.nm M.nf.1 (by decide) hg) M.cg (by decide) hk, R_blk (R_oth M.nd M.nf.1 (by decide) hg) M.cg (by decide) hk, R_blk (R_oth M.no M.nf.1 (by decide) hg) M.cg (by decide) hk, R_blk (R_oth M.nl M.nf.1 (by decide) hg) M.cg (by decide) hk, hb.setCell M.gb _⟩
theorem Mem.set2 (M : Mem w0 w g c va vf vm vd vo vl all fr ms far ord ls) (v : Value) (l : List S56) (h : Kd.R k56 56 w w0.heap.size (fun k => c k = 3) v l) : Mem w0 (w.setCell ⟨g, 2, none⟩ v) g c va vf v vd vo vl all fr l far ord ls := by
 have hk : ∀ k, k < w.heap.size → k ≠ g → (w.setCell ⟨g, 2, none⟩ v).heap[k]? = w.heap[k]? := fun k _ hne => Below.heap_setCell w _ v k hne
 exact ⟨by simpa using blk_set M.blk 2 v, M.cg, M.gb, M.a1, N2_blk M.na M.cg (by decide) (by decide) hk, R_blk M.nf M.cg (by decide) hk, R_blk h M.cg (by decide) hk, R_blk M.nd M.cg (by decide) hk, R_blk M.no M.cg (by decide) hk, R_blk M.nl M.cg (by decide) hk, M.bel.setCell M.gb _⟩
/-- A row grows, and the variable's field takes it. -/
theorem Mem.app2 (M : Mem w0 w g c va vf vm vd vo vl all fr ms far ord ls) (v : Value) (l : List S56) (hg : w.grownBy w1 vm.ownBlock) (hb : Below w0.heap.size w0 w1) (h : Kd.R k56 56 w1 w0.heap.size (fun k => c k = 3) v l) : Mem w0 (w1.setCell ⟨g, 2, none⟩ v) g c va vf v vd vo vl all fr l far ord ls := by
 have hk : ∀ k, k < w1.heap.size → k ≠ g → (w1.setCell ⟨g, 2, none⟩ v).heap[k]? = w1.heap[k]? := fun k _ hne => Below.heap_setCell w1 _ v k hne
 have hb1 := blk_grown M.blk hg (fun e => absurd ((M.nm.1 g e.symm).symm.trans M.cg) (by decide))
 exact ⟨by simpa using blk_set hb1 2 v, M.cg, M.gb, M.a1, N2_blk (N2_oth M.na M.nm.1 (by decide) (by decide) hg) M.cg (by decide) (by decide) hk, R_blk (R_oth M.nf M.nm.1 (by decide) hg) M.cg (by decide) hk, R_blk h M.cg (by decide) hk, R_blk (R_oth M.nd M.nm.1 (by decide) hg) M.cg (by decide) hk, R_blk (R_oth M.no M.nm.1 (by decide) hg) M.cg (by decide) hk, R_blk (R_oth M.nl M.nm.1 (by decide) hg) M.cg (by decide) hk, hb.setCell M.gb _⟩
theorem Mem.set3 (M : Mem w0 w g c va vf vm vd vo vl all fr ms far ord ls) (v : Value) (l : List Int) (h : Kd.R (Kd.int .i64) 3 w w0.heap.size (fun k => c k = 4) v l) : Mem w0 (w.setCell ⟨g, 3, none⟩ v) g c va vf vm v vo vl all fr ms l ord ls := by
 have hk : ∀ k, k < w.heap.size → k ≠ g → (w.setCell ⟨g, 3, none⟩ v).heap[k]? = w.heap[k]? := fun k _ hne => Below.heap_setCell w _ v k hne
 exact ⟨by simpa using blk_set M.blk 3 v, M.cg, M.gb, M.a1, N2_blk M.na M.cg (by decide) (by decide) hk, R_blk M.nf M.cg (by decide) hk, R_blk M.nm M.cg (by decide) hk, R_blk h M.cg (by decide) hk, R_blk M.no M.cg (by decide) hk, R_blk M.nl M.cg (by decide) hk, M.bel.setCell M.gb _⟩
/-- A row grows, and the variable's field takes it. -/
theorem Mem.app3 (M : Mem w0 w g c va vf vm vd vo vl all fr ms far ord ls) (v : Value) (l : List Int) (hg : w.grownBy w1 vd.ownBlock) (hb : Below w0.heap.size w0 w1) (h : Kd.R (Kd.int .i64) 3 w1 w0.heap.size (fun k => c k = 4) v l) : Mem w0 (w1.setCell ⟨g, 3, none⟩ v) g c va vf vm v vo vl all fr ms l ord ls := by
 have hk : ∀ k, k < w1.heap.size → k ≠ g → (w1.setCell ⟨g, 3, none⟩ v).heap[k]? = w1.heap[k]? := fun k _ hne => Below.heap_setCell w1 _ v k hne
 have hb1 := blk_grown M.blk hg (fun e => absurd ((M.nd.1 g e.symm).symm.trans M.cg) (by decide))
 exact ⟨by simpa using blk_set hb1 3 v, M.cg, M.gb, M.a1, N2_blk (N2_oth M.na M.nd.1 (by decide) (by decide) hg) M.cg (by decide) (by decide) hk, R_blk (R_oth M.nf M.nd.1 (by decide) hg) M.cg (by decide) hk, R_blk (R_oth M.nm M.nd.1 (by decide) hg) M.cg (by decide) hk, R_blk h M.cg (by decide) hk, R_blk (R_oth M.no M.nd.1 (by decide) hg) M.cg (by decide) hk, R_blk (R_oth M.nl M.nd.1 (by decide) hg) M.cg (by decide) hk, hb.setCell M.gb _⟩
theorem Mem.set4 (M : Mem w0 w g c va vf vm vd vo vl all fr ms far ord ls) (v : Value) (l : List Int) (h : Kd.R (Kd.int .i64) 3 w w0.heap.size (fun k => c k = 5) v l) : Mem w0 (w.setCell ⟨g, 4, none⟩ v) g c va vf vm vd v vl all fr ms far l ls := by
 have hk : ∀ k, k < w.heap.size → k ≠ g → (w.setCell ⟨g, 4, none⟩ v).heap[k]? = w.heap[k]? := fun k _ hne => Below.heap_setCell w _ v k hne
 exact ⟨by simpa using blk_set M.blk 4 v, M.cg, M.gb, M.a1, N2_blk M.na M.cg (by decide) (by decide) hk, R_blk M.nf M.cg (by decide) hk, R_blk M.nm M.cg (by decide) hk, R_blk M.nd M.cg (by decide) hk, R_blk h M.cg (by decide) hk, R_blk M.nl M.cg (by decide) hk, M.bel.setCell M.gb _⟩
/-- A row grows, and the variable's field takes it. -/
theorem Mem.app4 (M : Mem w0 w g c va vf vm vd vo vl all fr ms far ord ls) (v : Value) (l : List Int) (hg : w.grownBy w1 vo.ownBlock) (hb : Below w0.heap.size w0 w1) (h : Kd.R (Kd.int .i64) 3 w1 w0.heap.size (fun k => c k = 5) v l) : Mem w0 (w1.setCell ⟨g, 4, none⟩ v) g c va vf vm vd v vl all fr ms far l ls := by
 have hk : ∀ k, k < w1.heap.size → k ≠ g → (w1.setCell ⟨g, 4, none⟩ v).heap[k]? = w1.heap[k]? := fun k _ hne => Below.heap_setCell w1 _ v k hne
 have hb1 := blk_grown M.blk hg (fun e => absurd ((M.no.1 g e.symm).symm.trans M.cg) (by decide))
 exact ⟨by simpa using blk_set hb1 4 v, M.cg, M.gb, M.a1, N2_blk (N2_oth M.na M.no.1 (by decide) (by decide) hg) M.cg (by decide) (by decide) hk, R_blk (R_oth M.nf M.no.1 (by decide) hg) M.cg (by decide) hk, R_blk (R_oth M.nm M.no.1 (by decide) hg) M.cg (by decide) hk, R_blk (R_oth M.nd M.no.1 (by decide) hg) M.cg (by decide) hk, R_blk h M.cg (by decide) hk, R_blk (R_oth M.nl M.no.1 (by decide) hg) M.cg (by decide) hk, hb.setCell M.gb _⟩
/-- The order's row has been written anew, in its own block. -/
theorem Mem.row4 (M : Mem w0 w g c va vf vm vd vo vl all fr ms far ord ls) (l : List Int) (hg : w.grownBy w1 vo.ownBlock) (hb : Below w0.heap.size w0 w1) (h : Kd.R (Kd.int .i64) 3 w1 w0.heap.size (fun k => c k = 5) vo l) : Mem w0 w1 g c va vf vm vd vo vl all fr ms far l ls :=
 ⟨blk_grown M.blk hg (fun e => absurd ((M.no.1 g e.symm).symm.trans M.cg) (by decide)), M.cg, M.gb, M.a1, N2_oth M.na M.no.1 (by decide) (by decide) hg, R_oth M.nf M.no.1 (by decide) hg, R_oth M.nm M.no.1 (by decide) hg, R_oth M.nd M.no.1 (by decide) hg, h, R_oth M.nl M.no.1 (by decide) hg, hb⟩
end
end Go.Proofs.Ytjllbahhkeglfaa.P
namespace Go.Proofs.Ytjllbahhkeglfaa.P
open Go.RowKit Go.Proofs.YtjllbahhkeglfaaW.PrintWords Go.Proofs.YtjllbahhkeglfaaW.PrintLast Go.Proofs.YtjllbahhkeglfaaW.PrintMore
set_option linter.unusedVariables false
set_option linter.unusedSimpArgs false
theorem R_one {α : Type} {d : Kd α} {e base : Nat} {W : World} {ok : Nat → Prop} {cs : List Value} {x : α} (hb : base ≤ W.heap.size) (hok : ok W.heap.size)
 (hM : d.M (W.alloc (.cells cs.toArray e)) base (fun k => ok k ∧ k ≠ W.heap.size) x cs) : Kd.R d e (W.alloc (.cells cs.toArray e)) base ok (.slice (some ⟨W.heap.size, 0, none⟩) 1 1) [x] := by
 have hlen := d.K_len (d.K_of_M hM)
 refine ⟨fun k hk => ?_, cs, ?_, ?_⟩
 · have : W.heap.size = k := by simpa [Value.ownBlock] using hk
   rw [← this]; exact hok
 · have := World.ownsRow_lit (base := base) (e := e) (size := d.sz) W cs.toArray 1 hb (by simp [maxLen]) (by simp [hlen])
   simpa using this
 · have h1 := (Reps.none (d.M (W.alloc (.cells cs.toArray e)) base (fun k => ok k ∧ some k ≠ (Value.slice (some ⟨W.heap.size, 0, none⟩) 1 1).ownBlock)) d.sz).snoc (p := x) (c := cs)
    (d.M_mono (fun k hk => ⟨hk.1, by simpa [Value.ownBlock] using hk.2⟩) hM) hlen
   simpa using h1
theorem R_one_int {e base : Nat} {W : World} {ok : Nat → Prop} {x : Int} (hb : base ≤ W.heap.size) (hok : ok W.heap.size) : Kd.R (Kd.int .i64) e (W.alloc (.cells #[.int .i64 x] e)) base ok (.slice (some ⟨W.heap.size, 0, none⟩) 1 1) [x] :=
 R_one (cs := [.int .i64 x]) hb hok rfl
theorem N_one {α : Type} {d : Kd α} {e base : Nat} {W : World} {ok : Nat → Prop} {cs : List Value} {x : α} (hb : base ≤ W.heap.size) (hok : ok W.heap.size)
 (hF : Kd.FK d (W.alloc (.cells cs.toArray e)) (fun k => ok k ∧ k ≠ W.heap.size) x cs) : Kd.N d e (W.alloc (.cells cs.toArray e)) base ok (.slice (some ⟨W.heap.size, 0, none⟩) 1 1) [x] := by
 refine ⟨fun k hk => ?_, [cs], rfl, ?_, ?_⟩
 · have : W.heap.size = k := by simpa [Value.ownBlock] using hk
   rw [← this]; exact hok
 · exact R_one (d := Kd.raw d.sz) hb (by simp [Value.ownBlock]) (Kd.FK_raw hF)
 · intro j y c hy hc
   rcases j with _ | j
   · simp at hy hc
     subst hy; subst hc
     exact Kd.FK_mono hF (fun k hk => ⟨hk.1, by simpa [Value.ownBlock] using hk.2⟩)
   · simp at hy
/-- The start's colours: n is the heap's size when the call began. -/
def col0 (n : Nat) : Nat → Nat := fun k => if k = n + 1 then 1 else if k = n + 2 then 2 else if k = n + 3 then 3 else if k = n + 4 then 4 else if k = n + 5 then 5 else if k = n + 6 then 9 else 6
def startW (w : World) (v0 v1 : Value) : World :=
 ((((((w.alloc (.cells #[v0, v1] 33)).alloc (.cells #[v0, v1] 33)).alloc (.cells #[.int .i64 (-1)] 3)).alloc (.cells #[.int .i64 0, .int .i64 0] 56)).alloc (.cells #[.int .i64 0] 3)).alloc (.cells #[.int .i64 0] 3)).alloc
   (.cells #[.slice (some ⟨w.heap.size + 1, 0, none⟩) 1 1, .slice (some ⟨w.heap.size + 2, 0, none⟩) 1 1, .slice (some ⟨w.heap.size + 3, 0, none⟩) 1 1, .slice (some ⟨w.heap.size + 4, 0, none⟩) 1 1, .slice (some ⟨w.heap.size + 5, 0, none⟩) 1 1] 92)
theorem start_mem (w : World) (A0 A1 : Option Addr) (c0 c1 : Nat) (l0 l1 : List Int) (hr0 : Kd.C (Kd.int .i64) w A0 l0.length l0) (hc0 : l0.length ≤ c0) (hr1 : Kd.C (Kd.int .i64) w A1 l1.length l1) (hc1 : l1.length ≤ c1) :
 Mem w (startW w (.slice A0 l0.length c0) (.slice A1 l1.length c1)) (w.heap.size + 6) (col0 w.heap.size) (.slice (some ⟨w.heap.size + 1, 0, none⟩) 1 1) (.slice (some ⟨w.heap.size + 2, 0, none⟩) 1 1) (.slice (some ⟨w.heap.size + 3, 0, none⟩) 1 1) (.slice (some ⟨w.heap.size + 4, 0, none⟩) 1 1) (.slice (some ⟨w.heap.size + 5, 0, none⟩) 1 1) (.slice none 0 0)
  [⟨l0, l1⟩] [-1] [⟨0, 0⟩] [0] [0] [] := by
 have f0 := Kd.C_F (Kd.heap_int .i64) hr0
 have f1 := Kd.C_F (Kd.heap_int .i64) hr1
 unfold startW
 generalize hW0 : w.alloc (.cells #[.slice A0 l0.length c0, .slice A1 l1.length c1] 33) = W0
 have s0 : W0.heap.size = w.heap.size + 1 := by rw [← hW0]; simp
 have b0 : Below w.heap.size w W0 := by rw [← hW0]; exact below_alloc (Below.refl _ _) _
 have na : Kd.N k33 33 (W0.alloc (.cells #[.slice A0 l0.length c0, .slice A1 l1.length c1] 33)) w.heap.size (ok1 (col0 w.heap.size)) (.slice (some ⟨w.heap.size + 1, 0, none⟩) 1 1) [⟨l0, l1⟩] := by
  rw [← s0]
  refine N_one (cs := [.slice A0 l0.length c0, .slice A1 l1.length c1]) (by omega) (by rw [s0]; exact .inl (by simp [col0])) ?_
  refine k33_mkF _ _ ⟨l0, l1⟩ hc0 ?_ hc1 ?_
  · exact Kd.F_mono (Kd.F_alloc (Kd.F_below f0 b0) _) (fun k hk => ⟨.inr (by unfold col0; rw [if_neg (by omega), if_neg (by omega), if_neg (by omega), if_neg (by omega), if_neg (by omega), if_neg (by omega)]), by omega⟩)
  · exact Kd.F_mono (Kd.F_alloc (Kd.F_below f1 b0) _) (fun k hk => ⟨.inr (by unfold col0; rw [if_neg (by omega), if_neg (by omega), if_neg (by omega), if_neg (by omega), if_neg (by omega), if_neg (by omega)]), by omega⟩)
 have b1 : Below w.heap.size w (W0.alloc (.cells #[.slice A0 l0.length c0, .slice A1 l1.length c1] 33)) := below_alloc b0 _
 generalize hW1 : W0.alloc (.cells #[.slice A0 l0.length c0, .slice A1 l1.length c1] 33) = W1 at na b1
 have s1 : W1.heap.size = w.heap.size + 2 := by rw [← hW1]; simp [s0]
 have nf : Kd.R (Kd.int .i64) 3 (W1.alloc (.cells #[.int .i64 (-1)] 3)) w.heap.size (fun k => col0 w.heap.size k = 2) (.slice (some ⟨w.heap.size + 2, 0, none⟩) 1 1) [-1] := by
  rw [← s1]; exact R_one_int (by omega) (by rw [s1]; simp [col0])
 replace na := Kd.N_alloc na (.cells #[.int .i64 (-1)] 3)
 replace b1 := below_alloc b1 (.cells #[.int .i64 (-1)] 3)
 generalize hW2 : W1.alloc (.cells #[.int .i64 (-1)] 3) = W2 at na nf b1
 have s2 : W2.heap.size = w.heap.size + 3 := by rw [← hW2]; simp [s1]
 have nm : Kd.R k56 56 (W2.alloc (.cells #[.int .i64 0, .int .i64 0] 56)) w.heap.size (fun k => col0 w.heap.size k = 3) (.slice (some ⟨w.heap.size + 3, 0, none⟩) 1 1) [⟨0, 0⟩] := by
  rw [← s2]; exact R_one (cs := [.int .i64 0, .int .i64 0]) (by omega) (by rw [s2]; simp [col0]) (k56_mkM _ _ _ ⟨0, 0⟩)
 replace na := Kd.N_alloc na (.cells #[.int .i64 0, .int .i64 0] 56)
 replace nf := Kd.R_alloc nf (.cells #[.int .i64 0, .int .i64 0] 56)
 replace b1 := below_alloc b1 (.cells #[.int .i64 0, .int .i64 0] 56)
 generalize hW3 : W2.alloc (.cells #[.int .i64 0, .int .i64 0] 56) = W3 at na nf nm b1
 have s3 : W3.heap.size = w.heap.size + 4 := by rw [← hW3]; simp [s2]
 have nd : Kd.R (Kd.int .i64) 3 (W3.alloc (.cells #[.int .i64 0] 3)) w.heap.size (fun k => col0 w.heap.size k = 4) (.slice (some ⟨w.heap.size + 4, 0, none⟩) 1 1) [0] := by
  rw [← s3]; exact R_one_int (by omega) (by rw [s3]; simp [col0])
 replace na := Kd.N_alloc na (.cells #[.int .i64 0] 3)
 replace nf := Kd.R_alloc nf (.cells #[.int .i64 0] 3)
 replace nm := Kd.R_alloc nm (.cells #[.int .i64 0] 3)
 replace b1 := below_alloc b1 (.cells #[.int .i64 0] 3)
 generalize hW4 : W3.alloc (.cells #[.int .i64 0] 3) = W4 at na nf nm nd b1
 have s4 : W4.heap.size = w.heap.size + 5 := by rw [← hW4]; simp [s3]
 have no : Kd.R (Kd.int .i64) 3 (W4.alloc (.cells #[.int .i64 0] 3)) w.heap.size (fun k => col0 w.heap.size k = 5) (.slice (some ⟨w.heap.size + 5, 0, none⟩) 1 1) [0] := by
  rw [← s4]; exact R_one_int (by omega) (by rw [s4]; simp [col0])
 replace na := Kd.N_alloc na (.cells #[.int .i64 0] 3)
 replace nf := Kd.R_alloc nf (.cells #[.int .i64 0] 3)
 replace nm := Kd.R_alloc nm (.cells #[.int .i64 0] 3)
 replace nd := Kd.R_alloc nd (.cells #[.int .i64 0] 3)
 replace b1 := below_alloc b1 (.cells #[.int .i64 0] 3)
 generalize hW5 : W4.alloc (.cells #[.int .i64 0] 3) = W5 at na nf nm nd no b1
 have s5 : W5.heap.size = w.heap.size + 6 := by rw [← hW5]; simp [s4]
 have a1 : ∀ k, (Value.slice (some ⟨w.heap.size + 1, 0, none⟩) 1 1).ownBlock = some k → col0 w.heap.size k = 1 := fun k hk => by
  have : w.heap.size + 1 = k := by simpa [Value.ownBlock] using hk
  rw [← this]; simp [col0]
 exact ⟨by rw [← s5]; exact blk_new _ _, by simp [col0], by omega, a1, Kd.N_alloc na _, Kd.R_alloc nf _, Kd.R_alloc nm _, Kd.R_alloc nd _, Kd.R_alloc no _, Kd.R_nil _ _ _ _ _, below_alloc b1 _⟩
end Go.Proofs.Ytjllbahhkeglfaa.P
namespace Go.Proofs.Ytjllbahhkeglfaa.P
open Go.RowKit Go.Proofs.YtjllbahhkeglfaaW.PrintWords Go.Proofs.YtjllbahhkeglfaaW.PrintLast Go.Proofs.YtjllbahhkeglfaaW.PrintMore
set_option linter.unusedVariables false
set_option linter.unusedSimpArgs false
def Mid (w wx : World) (g b9 b10 : Nat) (all : List S33) (fr : List Int) (ms : List S56) (far ord : List Int) (vl : Value) (ls : List S56) (m : S56) (s nx : List Int) (A4 : Option Addr) (c4 : Nat) (A5 : Option Addr) (c5 : Nat) : Prop :=
 ∃ c va vf vm vd vo, Mem w wx g c va vf vm vd vo vl all fr ms far ord ls ∧ c b9 = 8 ∧ c b10 = 8 ∧ wx.heap[b9]? = some (.cells #[.int .i64 m.f0, .int .i64 m.f1] 56 (0, 0)) ∧
  wx.heap[b10]? = some (.cells #[.slice A4 s.length c4, .slice A5 nx.length c5] 33 (0, 0)) ∧ Kd.FK k33 wx (fun k => c k = 6) ⟨s, nx⟩ [.slice A4 s.length c4, .slice A5 nx.length c5]
section
variable {w wx w1 : World} {g b9 b10 : Nat} {all : List S33} {fr : List Int} {ms : List S56} {far ord : List Int} {vl : Value} {ls : List S56} {m : S56} {s nx : List Int} {A4 A5 : Option Addr} {c4 c5 : Nat}
theorem Mid.below (h : Mid w wx g b9 b10 all fr ms far ord vl ls m s nx A4 c4 A5 c5) (hb : Below wx.heap.size wx w1) : Mid w w1 g b9 b10 all fr ms far ord vl ls m s nx A4 c4 A5 c5 := by
 obtain ⟨c, va, vf, vm, vd, vo, M, h9, h10, k9, k10, hF⟩ := h
 exact ⟨c, va, vf, vm, vd, vo, M.below hb, h9, h10, blk_below k9 hb, blk_below k10 hb, Kd.FK_below hF hb⟩
theorem Mid.drew (h : Mid w wx g b9 b10 all fr ms far ord vl ls m s nx A4 c4 A5 c5) : Mid w wx.drew g b9 b10 all fr ms far ord vl ls m s nx A4 c4 A5 c5 := h.below (below_drew (Below.refl _ _))
theorem Mid.drewN (h : Mid w wx g b9 b10 all fr ms far ord vl ls m s nx A4 c4 A5 c5) (n : Nat) : Mid w (wx.drewN n) g b9 b10 all fr ms far ord vl ls m s nx A4 c4 A5 c5 := h.below (pw_below_drewN (Below.refl _ _) n)
theorem Mid.alloc (h : Mid w wx g b9 b10 all fr ms far ord vl ls m s nx A4 c4 A5 c5) (o : Obj) : Mid w (wx.alloc o) g b9 b10 all fr ms far ord vl ls m s nx A4 c4 A5 c5 := h.below (below_alloc (Below.refl _ _) o)
theorem Mid.bel (h : Mid w wx g b9 b10 all fr ms far ord vl ls m s nx A4 c4 A5 c5) : Below w.heap.size w wx := by
 obtain ⟨c, va, vf, vm, vd, vo, M, _⟩ := h
 exact M.bel
/-- Its two variables, to be read. -/
theorem Mid.vars (h : Mid w wx g b9 b10 all fr ms far ord vl ls m s nx A4 c4 A5 c5) : wx.heap[b9]? = some (.cells #[.int .i64 m.f0, .int .i64 m.f1] 56 (0, 0)) ∧ wx.heap[b10]? = some (.cells #[.slice A4 s.length c4, .slice A5 nx.length c5] 33 (0, 0)) ∧
 s.length ≤ c4 ∧ Kd.C (Kd.int .i64) wx A4 s.length s ∧ nx.length ≤ c5 ∧ Kd.C (Kd.int .i64) wx A5 nx.length nx := by
 obtain ⟨c, va, vf, vm, vd, vo, M, h9, h10, k9, k10, hF⟩ := h
 obtain ⟨A0, c0, A1, c1, he, hl0, hC0, hl1, hC1⟩ := k33_open (Kd.FK_now hF)
 simp only [List.cons.injEq, Value.slice.injEq, true_and, and_true] at he
 obtain ⟨⟨rfl, rfl⟩, ⟨rfl, rfl⟩⟩ := he
 exact ⟨k9, k10, hl0, hC0, hl1, hC1⟩
/-- What the search knows, to be read. -/
theorem Mid.seen (h : Mid w wx g b9 b10 all fr ms far ord vl ls m s nx A4 c4 A5 c5) : ∃ Aa Ao ca co vf vm vd, Seen wx g vf vm vd Aa Ao ca co all ord := by
 obtain ⟨c, va, vf, vm, vd, vo, M, h9, h10, k9, k10, hF⟩ := h
 obtain ⟨Aa, ca, rfl, _, ha⟩ := Kd.N_reads M.na
 obtain ⟨Ao, co, rfl, _, ho⟩ := Kd.R_reads M.no
 exact ⟨Aa, Ao, ca, co, vf, vm, vd, ⟨M.blk, ha, ho⟩⟩
theorem Mid.memL (h : Mid w wx g b9 b10 all fr ms far ord vl ls m s nx A4 c4 A5 c5) : ∃ c va vf vm vd vo, Mem w wx g c va vf vm vd vo vl all fr ms far ord ls := by
 obtain ⟨c, va, vf, vm, vd, vo, M, _⟩ := h
 exact ⟨c, va, vf, vm, vd, vo, M⟩
/-- The row in field 0: what an append to it asks, and what it leaves. -/
theorem Mid.row0 (h : Mid w wx g b9 b10 all fr ms far ord vl ls m s nx A4 c4 A5 c5) : ∃ (v0 : Value) (ok : Nat → Prop) (u0 u1 u2 u3 u4 : Value), wx.cell? ⟨g, 0, none⟩ = some v0 ∧ (∃ A c, v0 = .slice A all.length c) ∧ Kd.N k33 33 wx w.heap.size ok v0 all ∧ (∀ k, wx.heap.size ≤ k → ok k) ∧
 (∀ w1 : World, wx.grownBy w1 v0.ownBlock → w1.heap[g]? = some (.cells #[u0, u1, u2, u3, u4] 92 (0, 0))) ∧ (∀ k, v0.ownBlock = some k → k ≠ b9 ∧ k ≠ b10 ∧ k ≠ g) ∧ (∀ W1 : World, Below wx.heap.size wx W1 → Kd.FK k33 W1 (fun k => ok k ∧ some k ≠ v0.ownBlock) ⟨s, nx⟩ [.slice A4 s.length c4, .slice A5 nx.length c5]) ∧
 ∀ (v1 : Value) (w1 : World), Kd.N k33 33 w1 w.heap.size ok v1 (all ++ [⟨s, nx⟩]) → Below w.heap.size w w1 → wx.grownBy w1 v0.ownBlock → (v1.ownBlock = v0.ownBlock ∨ ∃ b, v1.ownBlock = some b ∧ wx.heap.size ≤ b) → Mid w (w1.setCell ⟨g, 0, none⟩ v1) g b9 b10 (all ++ [⟨s, nx⟩]) fr ms far ord vl ls m s nx A4 c4 A5 c5 := by
 obtain ⟨c, va, vf, vm, vd, vo, M, h9, h10, k9, k10, hF⟩ := h
 have M1 := M.upd 1
 have hF1 := FK_col hF (c' := upd c wx.heap.size 1) (fun k hk => upd_lt hk)
 have h91 : upd c wx.heap.size 1 b9 = 8 := (upd_lt (blk_lt k9)).trans h9
 have h101 : upd c wx.heap.size 1 b10 = 8 := (upd_lt (blk_lt k10)).trans h10
 have hne : ∀ k, va.ownBlock = some k → k ≠ b9 ∧ k ≠ b10 ∧ k ≠ g := fun k hk => ⟨fun e => absurd ((M1.a1 k hk).symm.trans ((congrArg _ e).trans h91)) (by decide), fun e => absurd ((M1.a1 k hk).symm.trans ((congrArg _ e).trans h101)) (by decide), fun e => absurd ((M1.a1 k hk).symm.trans ((congrArg _ e).trans M1.cg)) (by decide)⟩
 have hnb9 : some b9 ≠ va.ownBlock := fun e => (hne b9 e.symm).1 rfl
 have hnb10 : some b10 ≠ va.ownBlock := fun e => (hne b10 e.symm).2.1 rfl
 have hg9 : g ≠ b9 := fun e => absurd (M1.cg.symm.trans ((congrArg _ e).trans h91)) (by decide)
 have hg10 : g ≠ b10 := fun e => absurd (M1.cg.symm.trans ((congrArg _ e).trans h101)) (by decide)
 refine ⟨va, ok1 (upd c wx.heap.size 1), va, vf, vm, vd, vo, (blk_cell M.blk 0).trans rfl, Kd.N_slice M.na, M1.na, fun k hk => (.inl (upd_ge hk) : ok1 _ _), fun w1 hg => blk_grown M.blk hg (fun e => (hne g e.symm).2.2 rfl), hne, fun W1 hb1 => Kd.FK_mono (Kd.FK_below hF1 hb1) (fun k hk => ⟨.inr hk, fun e => absurd (hk.symm.trans (M1.a1 k e.symm)) (by decide)⟩), ?_⟩
 intro v1 w1 hR hb hg hat
 refine ⟨upd c wx.heap.size 1, v1, vf, vm, vd, vo, M1.app0 v1 _ hg hb hR (fun k hk => by rcases hat with e | ⟨b, e, hb2⟩; exact M1.a1 k (e ▸ hk); rw [e] at hk; injection hk with hk; rw [← hk]; exact upd_ge hb2), h91, h101, blk_far (blk_grown k9 hg hnb9) hg9.symm _, blk_far (blk_grown k10 hg hnb10) hg10.symm _, ?_⟩
 exact Kd.FK_step hF1 (fun k hk hlt => (Below.heap_setCell w1 _ v1 k (fun e => absurd (hk.symm.trans ((congrArg _ e).trans M1.cg)) (by decide))).trans (hg.block k hlt (fun e => absurd (hk.symm.trans (M1.a1 k e.symm)) (by decide))))
/-- The row in field 1: what an append to it asks, and what it leaves. -/
theorem Mid.row1 (h : Mid w wx g b9 b10 all fr ms far ord vl ls m s nx A4 c4 A5 c5) : ∃ (v0 : Value) (ok : Nat → Prop) (u0 u1 u2 u3 u4 : Value), wx.cell? ⟨g, 1, none⟩ = some v0 ∧ (∃ A c, v0 = .slice A fr.length c) ∧ Kd.R (Kd.int .i64) 3 wx w.heap.size ok v0 fr ∧ (∀ k, wx.heap.size ≤ k → ok k) ∧
 (∀ w1 : World, wx.grownBy w1 v0.ownBlock → w1.heap[g]? = some (.cells #[u0, u1, u2, u3, u4] 92 (0, 0))) ∧ (∀ k, v0.ownBlock = some k → k ≠ b9 ∧ k ≠ b10 ∧ k ≠ g) ∧
 ∀ (x : Int) (v1 : Value) (w1 : World), Kd.R (Kd.int .i64) 3 w1 w.heap.size ok v1 (fr ++ [x]) → Below w.heap.size w w1 → wx.grownBy w1 v0.ownBlock → Mid w (w1.setCell ⟨g, 1, none⟩ v1) g b9 b10 all (fr ++ [x]) ms far ord vl ls m s nx A4 c4 A5 c5 := by
 obtain ⟨c, va, vf, vm, vd, vo, M, h9, h10, k9, k10, hF⟩ := h
 have M1 := M.upd 2
 have hF1 := FK_col hF (c' := upd c wx.heap.size 2) (fun k hk => upd_lt hk)
 have h91 : upd c wx.heap.size 2 b9 = 8 := (upd_lt (blk_lt k9)).trans h9
 have h101 : upd c wx.heap.size 2 b10 = 8 := (upd_lt (blk_lt k10)).trans h10
 have hne : ∀ k, vf.ownBlock = some k → k ≠ b9 ∧ k ≠ b10 ∧ k ≠ g := fun k hk => ⟨fun e => absurd ((M1.nf.1 k hk).symm.trans ((congrArg _ e).trans h91)) (by decide), fun e => absurd ((M1.nf.1 k hk).symm.trans ((congrArg _ e).trans h101)) (by decide), fun e => absurd ((M1.nf.1 k hk).symm.trans ((congrArg _ e).trans M1.cg)) (by decide)⟩
 have hnb9 : some b9 ≠ vf.ownBlock := fun e => (hne b9 e.symm).1 rfl
 have hnb10 : some b10 ≠ vf.ownBlock := fun e => (hne b10 e.symm).2.1 rfl
 have hg9 : g ≠ b9 := fun e => absurd (M1.cg.symm.trans ((congrArg _ e).trans h91)) (by decide)
 have hg10 : g ≠ b10 := fun e => absurd (M1.cg.symm.trans ((congrArg _ e).trans h101)) (by decide)
 refine ⟨vf, fun k => upd c wx.heap.size 2 k = 2, va, vf, vm, vd, vo, (blk_cell M.blk 1).trans rfl, Kd.R_slice M.nf, M1.nf, fun k hk => upd_ge hk, fun w1 hg => blk_grown M.blk hg (fun e => (hne g e.symm).2.2 rfl), hne, ?_⟩
 intro x v1 w1 hR hb hg
 refine ⟨upd c wx.heap.size 2, va, v1, vm, vd, vo, M1.app1 v1 _ hg hb hR, h91, h101, blk_far (blk_grown k9 hg hnb9) hg9.symm _, blk_far (blk_grown k10 hg hnb10) hg10.symm _, ?_⟩
 exact Kd.FK_step hF1 (fun k hk hlt => (Below.heap_setCell w1 _ v1 k (fun e => absurd (hk.symm.trans ((congrArg _ e).trans M1.cg)) (by decide))).trans (hg.block k hlt (fun e => absurd (hk.symm.trans (M1.nf.1 k e.symm)) (by decide))))
/-- The row in field 2: what an append to it asks, and what it leaves. -/
theorem Mid.row2 (h : Mid w wx g b9 b10 all fr ms far ord vl ls m s nx A4 c4 A5 c5) : ∃ (v0 : Value) (ok : Nat → Prop) (u0 u1 u2 u3 u4 : Value), wx.cell? ⟨g, 2, none⟩ = some v0 ∧ (∃ A c, v0 = .slice A ms.length c) ∧ Kd.R k56 56 wx w.heap.size ok v0 ms ∧ (∀ k, wx.heap.size ≤ k → ok k) ∧
 (∀ w1 : World, wx.grownBy w1 v0.ownBlock → w1.heap[g]? = some (.cells #[u0, u1, u2, u3, u4] 92 (0, 0))) ∧ (∀ k, v0.ownBlock = some k → k ≠ b9 ∧ k ≠ b10 ∧ k ≠ g) ∧
 ∀ (x : S56) (v1 : Value) (w1 : World), Kd.R k56 56 w1 w.heap.size ok v1 (ms ++ [x]) → Below w.heap.size w w1 → wx.grownBy w1 v0.ownBlock → Mid w (w1.setCell ⟨g, 2, none⟩ v1) g b9 b10 all fr (ms ++ [x]) far ord vl ls m s nx A4 c4 A5 c5 := by
 obtain ⟨c, va, vf, vm, vd, vo, M, h9, h10, k9, k10, hF⟩ := h
 have M1 := M.upd 3
 have hF1 := FK_col hF (c' := upd c wx.heap.size 3) (fun k hk => upd_lt hk)
 have h91 : upd c wx.heap.size 3 b9 = 8 := (upd_lt (blk_lt k9)).trans h9
 have h101 : upd c wx.heap.size 3 b10 = 8 := (upd_lt (blk_lt k10)).trans h10
 have hne : ∀ k, vm.ownBlock = some k → k ≠ b9 ∧ k ≠ b10 ∧ k ≠ g := fun k hk => ⟨fun e => absurd ((M1.nm.1 k hk).symm.trans ((congrArg _ e).trans h91)) (by decide), fun e => absurd ((M1.nm.1 k hk).symm.trans ((congrArg _ e).trans h101)) (by decide), fun e => absurd ((M1.nm.1 k hk).symm.trans ((congrArg _ e).trans M1.cg)) (by decide)⟩
 have hnb9 : some b9 ≠ vm.ownBlock := fun e => (hne b9 e.symm).1 rfl
 have hnb10 : some b10 ≠ vm.ownBlock := fun e => (hne b10 e.symm).2.1 rfl
 have hg9 : g ≠ b9 := fun e => absurd (M1.cg.symm.trans ((congrArg _ e).trans h91)) (by decide)
 have hg10 : g ≠ b10 := fun e => absurd (M1.cg.symm.trans ((congrArg _ e).trans h101)) (by decide)
 refine ⟨vm, fun k => upd c wx.heap.size 3 k = 3, va, vf, vm, vd, vo, (blk_cell M.blk 2).trans rfl, Kd.R_slice M.nm, M1.nm, fun k hk => upd_ge hk, fun w1 hg => blk_grown M.blk hg (fun e => (hne g e.symm).2.2 rfl), hne, ?_⟩
 intro x v1 w1 hR hb hg
 refine ⟨upd c wx.heap.size 3, va, vf, v1, vd, vo, M1.app2 v1 _ hg hb hR, h91, h101, blk_far (blk_grown k9 hg hnb9) hg9.symm _, blk_far (blk_grown k10 hg hnb10) hg10.symm _, ?_⟩
 exact Kd.FK_step hF1 (fun k hk hlt => (Below.heap_setCell w1 _ v1 k (fun e => absurd (hk.symm.trans ((congrArg _ e).trans M1.cg)) (by decide))).trans (hg.block k hlt (fun e => absurd (hk.symm.trans (M1.nm.1 k e.symm)) (by decide))))
/-- The row in field 3: what an append to it asks, and what it leaves. -/
theorem Mid.row3 (h : Mid w wx g b9 b10 all fr ms far ord vl ls m s nx A4 c4 A5 c5) : ∃ (v0 : Value) (ok : Nat → Prop) (u0 u1 u2 u3 u4 : Value), wx.cell? ⟨g, 3, none⟩ = some v0 ∧ (∃ A c, v0 = .slice A far.length c) ∧ Kd.R (Kd.int .i64) 3 wx w.heap.size ok v0 far ∧ (∀ k, wx.heap.size ≤ k → ok k) ∧
 (∀ w1 : World, wx.grownBy w1 v0.ownBlock → w1.heap[g]? = some (.cells #[u0, u1, u2, u3, u4] 92 (0, 0))) ∧ (∀ k, v0.ownBlock = some k → k ≠ b9 ∧ k ≠ b10 ∧ k ≠ g) ∧
 ∀ (x : Int) (v1 : Value) (w1 : World), Kd.R (Kd.int .i64) 3 w1 w.heap.size ok v1 (far ++ [x]) → Below w.heap.size w w1 → wx.grownBy w1 v0.ownBlock → Mid w (w1.setCell ⟨g, 3, none⟩ v1) g b9 b10 all fr ms (far ++ [x]) ord vl ls m s nx A4 c4 A5 c5 := by
 obtain ⟨c, va, vf, vm, vd, vo, M, h9, h10, k9, k10, hF⟩ := h
 have M1 := M.upd 4
 have hF1 := FK_col hF (c' := upd c wx.heap.size 4) (fun k hk => upd_lt hk)
 have h91 : upd c wx.heap.size 4 b9 = 8 := (upd_lt (blk_lt k9)).trans h9
 have h101 : upd c wx.heap.size 4 b10 = 8 := (upd_lt (blk_lt k10)).trans h10
 have hne : ∀ k, vd.ownBlock = some k → k ≠ b9 ∧ k ≠ b10 ∧ k ≠ g := fun k hk => ⟨fun e => absurd ((M1.nd.1 k hk).symm.trans ((congrArg _ e).trans h91)) (by decide), fun e => absurd ((M1.nd.1 k hk).symm.trans ((congrArg _ e).trans h101)) (by decide), fun e => absurd ((M1.nd.1 k hk).symm.trans ((congrArg _ e).trans M1.cg)) (by decide)⟩
 have hnb9 : some b9 ≠ vd.ownBlock := fun e => (hne b9 e.symm).1 rfl
 have hnb10 : some b10 ≠ vd.ownBlock := fun e => (hne b10 e.symm).2.1 rfl
 have hg9 : g ≠ b9 := fun e => absurd (M1.cg.symm.trans ((congrArg _ e).trans h91)) (by decide)
 have hg10 : g ≠ b10 := fun e => absurd (M1.cg.symm.trans ((congrArg _ e).trans h101)) (by decide)
 refine ⟨vd, fun k => upd c wx.heap.size 4 k = 4, va, vf, vm, vd, vo, (blk_cell M.blk 3).trans rfl, Kd.R_slice M.nd, M1.nd, fun k hk => upd_ge hk, fun w1 hg => blk_grown M.blk hg (fun e => (hne g e.symm).2.2 rfl), hne, ?_⟩
 intro x v1 w1 hR hb hg
 refine ⟨upd c wx.heap.size 4, va, vf, vm, v1, vo, M1.app3 v1 _ hg hb hR, h91, h101, blk_far (blk_grown k9 hg hnb9) hg9.symm _, blk_far (blk_grown k10 hg hnb10) hg10.symm _, ?_⟩
 exact Kd.FK_step hF1 (fun k hk hlt => (Below.heap_setCell w1 _ v1 k (fun e => absurd (hk.symm.trans ((congrArg _ e).trans M1.cg)) (by decide))).trans (hg.block k hlt (fun e => absurd (hk.symm.trans (M1.nd.1 k e.symm)) (by decide))))
/-- The row in field 4: what an append to it asks, and what it leaves. -/
theorem Mid.row4 (h : Mid w wx g b9 b10 all fr ms far ord vl ls m s nx A4 c4 A5 c5) : ∃ (v0 : Value) (ok : Nat → Prop) (u0 u1 u2 u3 u4 : Value), wx.cell? ⟨g, 4, none⟩ = some v0 ∧ (∃ A c, v0 = .slice A ord.length c) ∧ Kd.R (Kd.int .i64) 3 wx w.heap.size ok v0 ord ∧ (∀ k, wx.heap.size ≤ k → ok k) ∧
 (∀ w1 : World, wx.grownBy w1 v0.ownBlock → w1.heap[g]? = some (.cells #[u0, u1, u2, u3, u4] 92 (0, 0))) ∧ (∀ k, v0.ownBlock = some k → k ≠ b9 ∧ k ≠ b10 ∧ k ≠ g) ∧
 ∀ (x : Int) (v1 : Value) (w1 : World), Kd.R (Kd.int .i64) 3 w1 w.heap.size ok v1 (ord ++ [x]) → Below w.heap.size w w1 → wx.grownBy w1 v0.ownBlock → Mid w (w1.setCell ⟨g, 4, none⟩ v1) g b9 b10 all fr ms far (ord ++ [x]) vl ls m s nx A4 c4 A5 c5 := by
 obtain ⟨c, va, vf, vm, vd, vo, M, h9, h10, k9, k10, hF⟩ := h
 have M1 := M.upd 5
 have hF1 := FK_col hF (c' := upd c wx.heap.size 5) (fun k hk => upd_lt hk)
 have h91 : upd c wx.heap.size 5 b9 = 8 := (upd_lt (blk_lt k9)).trans h9
 have h101 : upd c wx.heap.size 5 b10 = 8 := (upd_lt (blk_lt k10)).trans h10
 have hne : ∀ k, vo.ownBlock = some k → k ≠ b9 ∧ k ≠ b10 ∧ k ≠ g := fun k hk => ⟨fun e => absurd ((M1.no.1 k hk).symm.trans ((congrArg _ e).trans h91)) (by decide), fun e => absurd ((M1.no.1 k hk).symm.trans ((congrArg _ e).trans h101)) (by decide), fun e => absurd ((M1.no.1 k hk).symm.trans ((congrArg _ e).trans M1.cg)) (by decide)⟩
 have hnb9 : some b9 ≠ vo.ownBlock := fun e => (hne b9 e.symm).1 rfl
 have hnb10 : some b10 ≠ vo.ownBlock := fun e => (hne b10 e.symm).2.1 rfl
 have hg9 : g ≠ b9 := fun e => absurd (M1.cg.symm.trans ((congrArg _ e).trans h91)) (by decide)
 have hg10 : g ≠ b10 := fun e => absurd (M1.cg.symm.trans ((congrArg _ e).trans h101)) (by decide)
 refine ⟨vo, fun k => upd c wx.heap.size 5 k = 5, va, vf, vm, vd, vo, (blk_cell M.blk 4).trans rfl, Kd.R_slice M.no, M1.no, fun k hk => upd_ge hk, fun w1 hg => blk_grown M.blk hg (fun e => (hne g e.symm).2.2 rfl), hne, ?_⟩
 intro x v1 w1 hR hb hg
 refine ⟨upd c wx.heap.size 5, va, vf, vm, vd, v1, M1.app4 v1 _ hg hb hR, h91, h101, blk_far (blk_grown k9 hg hnb9) hg9.symm _, blk_far (blk_grown k10 hg hnb10) hg10.symm _, ?_⟩
 exact Kd.FK_step hF1 (fun k hk hlt => (Below.heap_setCell w1 _ v1 k (fun e => absurd (hk.symm.trans ((congrArg _ e).trans M1.cg)) (by decide))).trans (hg.block k hlt (fun e => absurd (hk.symm.trans (M1.no.1 k e.symm)) (by decide))))
end
end Go.Proofs.Ytjllbahhkeglfaa.P
namespace Go.Proofs.Ytjllbahhkeglfaa.P
open Go.RowKit Go.Proofs.YtjllbahhkeglfaaW.PrintWords Go.Proofs.YtjllbahhkeglfaaW.PrintLast Go.Proofs.YtjllbahhkeglfaaW.PrintMore
set_option linter.unusedVariables false
set_option linter.unusedSimpArgs false
theorem N2_move {α : Type} {d : Kd α} {e base : Nat} {c c' : Nat → Nat} {w w1 : World} {v : Value} {xs : List α} (h : Kd.N d e w base (ok1 c) v xs) {b : Nat} (hc : ∀ k, k < w.heap.size → c' k = c k) (hk : ∀ k, k < w.heap.size → w1.heap[k]? = w.heap[k]?) : Kd.N d e w1 base (ok1 c') v xs :=
 Kd.N_step (N2_col h hc) (fun k _ hlt => hk k hlt)
theorem R_move' {α : Type} {d : Kd α} {e base i : Nat} {c c' : Nat → Nat} {w w1 : World} {v : Value} {xs : List α} (h : Kd.R d e w base (fun k => c k = i) v xs) (hc : ∀ k, k < w.heap.size → c' k = c k) (hk : ∀ k, k < w.heap.size → w1.heap[k]? = w.heap[k]?) : Kd.R d e w1 base (fun k => c' k = i) v xs :=
 Kd.R_step (R_col h hc) (fun k _ hlt => hk k hlt)
theorem F_of_R {α : Type} {d : Kd α} {e base n cc : Nat} {ok : Nat → Prop} {A : Option Addr} {w : World} {xs : List α} (h : Kd.R d e w base ok (.slice A n cc) xs) : Kd.F d w ok A n xs := Kd.N_F (Kd.R_N h)
theorem mid_of {w W9 w2 w3 : World} {g b9 b10 : Nat} {c : Nat → Nat} {va vf vm vd vo vl : Value} {all : List S33} {fr : List Int} {ms : List S56} {far ord : List Int} {ls : List S56} {m : S56} {s nx : List Int} {A4 A5 : Option Addr} {c4 c5 : Nat} {ok4 ok5 : Nat → Prop}
 (M : Mem w W9 g c va vf vm vd vo vl all fr ms far ord ls) (h9 : c b9 = 8) (k9 : W9.heap[b9]? = some (.cells #[.int .i64 m.f0, .int .i64 m.f1] 56 (0, 0))) (hb : Below W9.heap.size W9 w2)
 (hv4 : Kd.R (Kd.int .i64) 3 w2 W9.heap.size ok4 (.slice A4 s.length c4) s) (hv5 : Kd.R (Kd.int .i64) 3 w2 W9.heap.size ok5 (.slice A5 nx.length c5) nx)
 (hge : W9.heap.size ≤ b10) (hk : ∀ k, k < w2.heap.size → k ≠ b10 → w3.heap[k]? = w2.heap[k]?) (h10 : w3.heap[b10]? = some (.cells #[.slice A4 s.length c4, .slice A5 nx.length c5] 33 (0, 0)))
 (n4 : ∀ k, (Value.slice A4 s.length c4).ownBlock = some k → k ≠ b10) (n5 : ∀ k, (Value.slice A5 nx.length c5).ownBlock = some k → k ≠ b10) (hbel : Below w.heap.size w w3) :
 Mid w w3 g b9 b10 all fr ms far ord vl ls m s nx A4 c4 A5 c5 := by
 have hc : ∀ k, k < W9.heap.size → (fun k => if k = b10 then 8 else upd c W9.heap.size 6 k) k = c k := fun k hlt => by
  show (if k = b10 then 8 else upd c W9.heap.size 6 k) = c k
  rw [if_neg (by omega), upd_lt hlt]
 have hmv : ∀ k, k < W9.heap.size → w3.heap[k]? = W9.heap[k]? := fun k hlt => (hk k (Nat.lt_of_lt_of_le hlt hb.size) (by omega)).trans (hb.block k hlt)
 have hlt9 := blk_lt k9
 have hltg := blk_lt M.blk
 refine ⟨fun k => if k = b10 then 8 else upd c W9.heap.size 6 k, va, vf, vm, vd, vo, ⟨(hmv g hltg).trans M.blk, (hc g hltg).trans M.cg, M.gb, fun k hk => (hc k (Kd.N_lt M.na k hk)).trans (M.a1 k hk), N2_move (b := b10) M.na hc hmv, R_move' M.nf hc hmv, R_move' M.nm hc hmv, R_move' M.nd hc hmv, R_move' M.no hc hmv, R_move' M.nl hc hmv, hbel⟩,
  (hc b9 hlt9).trans h9, if_pos rfl, (hmv b9 hlt9).trans k9, h10, ?_⟩
 have e4 : s.length ≤ c4 ∧ True := ⟨by obtain ⟨A, cc, e, hl, _⟩ := Kd.R_reads hv4; simp only [Value.slice.injEq] at e; omega, trivial⟩
 have e5 : nx.length ≤ c5 ∧ True := ⟨by obtain ⟨A, cc, e, hl, _⟩ := Kd.R_reads hv5; simp only [Value.slice.injEq] at e; omega, trivial⟩
 have f4 : Kd.F (Kd.int .i64) w3 (fun k => (if k = b10 then 8 else upd c W9.heap.size 6 k) = 6) A4 s.length s := by
  have h1 := Kd.F_bound (F_of_R (Kd.R_tight (d := Kd.int .i64) rfl (Kd.R_bound hv4)))
  refine Kd.F_mono (ok := fun k => (some k = (Value.slice A4 s.length c4).ownBlock ∧ k < w2.heap.size)) (Kd.F_step h1 (fun k hk1 hlt => hk k hlt (n4 k hk1.1.symm))) (fun k hk1 => ?_)
  have hb4 := Kd.R_base hv4 k hk1.1.symm
  rw [if_neg (n4 k hk1.1.symm), upd_ge hb4]
 have f5 : Kd.F (Kd.int .i64) w3 (fun k => (if k = b10 then 8 else upd c W9.heap.size 6 k) = 6) A5 nx.length nx := by
  have h1 := Kd.F_bound (F_of_R (Kd.R_tight (d := Kd.int .i64) rfl (Kd.R_bound hv5)))
  refine Kd.F_mono (ok := fun k => (some k = (Value.slice A5 nx.length c5).ownBlock ∧ k < w2.heap.size)) (Kd.F_step h1 (fun k hk1 hlt => hk k hlt (n5 k hk1.1.symm))) (fun k hk1 => ?_)
  have hb5 := Kd.R_base hv5 k hk1.1.symm
  rw [if_neg (n5 k hk1.1.symm), upd_ge hb5]
 exact k33_mkF w3 _ ⟨s, nx⟩ e4.1 f4 e5.1 f5
theorem own_ne_of {α : Type} {d : Kd α} {e base t : Nat} {ok : Nat → Prop} {w : World} {v : Value} {xs : List α} {b : Nat} {cs : Array Value} (h : Kd.R d e w base ok v xs) (hb : w.heap[b]? = some (.cells cs t (0, 0))) (ht : e ≠ t) : ∀ k, v.ownBlock = some k → k ≠ b := fun k hk hkb => Kd.R_ne h hb ht (by rw [hk, hkb])
end Go.Proofs.Ytjllbahhkeglfaa.P
namespace Go.Proofs.Ytjllbahhkeglfaa.P
open Go.RowKit Go.Proofs.YtjllbahhkeglfaaW.PrintWords Go.Proofs.YtjllbahhkeglfaaW.PrintLast Go.Proofs.YtjllbahhkeglfaaW.PrintMore
set_option linter.unusedVariables false
set_option linter.unusedSimpArgs false
def keyCells (h : List Int) : Array Value := #[.int .i64 (h.getD 0 0), .int .i64 (h.getD 1 0), .int .i64 (h.getD 2 0), .int .i64 (h.getD 3 0), .int .i64 (h.getD 4 0)]
theorem info3sz : (Try.prog.info? 3).map (·.size) = some 1 := by kernel_rfl
theorem splice_key (h : List Int) : splice (List.replicate 5 (Value.int .i64 0)) 0 ((h.take 5).map (Value.int .i64)) = [.int .i64 (h.getD 0 0), .int .i64 (h.getD 1 0), .int .i64 (h.getD 2 0), .int .i64 (h.getD 3 0), .int .i64 (h.getD 4 0)] := by
 unfold splice
 match h with
 | [] => rfl
 | [a] => rfl
 | [a, b] => rfl
 | [a, b, c] => rfl
 | [a, b, c, d] => rfl
 | a :: b :: c :: d :: e :: r => simp
theorem key_src {w : World} {A : Option Addr} {l : List Int} (h : Kd.C (Kd.int .i64) w A l.length l) :
 0 < ((l.take 5).map (Value.int .i64)).length → ∃ ad, A = some ad ∧ ∀ j v, ((l.take 5).map (Value.int .i64))[j]? = some v → w.cell? (ad.add j) = some v := by
 intro hp
 have hl : 0 < l.length := by
  rcases Nat.eq_zero_or_pos l.length with h0 | h0
  · rw [List.eq_nil_of_length_eq_zero h0] at hp; simp at hp
  · exact h0
 obtain ⟨ad, _, rfl, _⟩ := Kd.C_get h (0 : Int) 0 (by omega) (by omega)
 refine ⟨ad, rfl, fun j v hj => ?_⟩
 rw [List.getElem?_map, List.getElem?_take] at hj
 split at hj
 · obtain ⟨x, hx, rfl⟩ := Option.map_eq_some_iff.1 hj
   have hjl := (List.getElem?_eq_some_iff.1 hx).1
   obtain ⟨ad', c, e, hcl, hK, hc⟩ := Kd.C_get h (0 : Int) j (by omega) (by omega)
   injection e with e
   subst e
   have hK' : c = [.int .i64 (l.getD (j : Int).toNat 0)] := hK
   subst hK'
   have h1 := hc 0 _ rfl
   have hsz : (Kd.int .i64).sz = 1 := rfl
   have hx' : l.getD j 0 = x := by simp [List.getD_eq_getElem?_getD, hx]
   simp only [hsz, Int.toNat_natCast, Nat.mul_one, Nat.add_zero] at h1
   rw [h1, hx']
 · simp at hj
set_option maxHeartbeats 800000 in
set_option maxRecDepth 100000 in
theorem impl_keyOf.calls (v0 : Value) (A1 : Option Addr) (c1 : Nat) (l1 : List Int) (w : World) (hv : v0.oneCell' = true) (hr1 : Kd.C (Kd.int .i64) w A1 l1.length l1) :
 Calls Try.prog 104 #[.agg #[v0, .slice A1 l1.length c1]] w fun e w' => e = .returned (.agg (keyCells l1)) ∧ Below w.heap.size w w' := by
 have HR1 := Aside0.mk hr1
 clear hr1
 have hu33 := Try.underlying33
 go_enter Try.func104, Try.ntmps104
 go_wp2
 have HS := Aside0.mk (key_src HR1.out)
 have HCS := Aside0.mk (splice_key l1)
 go_region_law (first | (refine step_copy_splice (by rfl) (.tmp 5) (.tmp 7) 28 28 (by rfl) 3 Try.underlying28 info3sz (some ⟨w.heap.size + 1 + 1, 0, none⟩) A1 5 5 l1.length c1 (by rfl) (by rfl) (w.heap.size + 1 + 1) 0 (List.replicate 5 (Value.int .i64 0)) 116 ?g1 ((l1.take 5).map (Value.int .i64)) ?g2 ?g3 ?g4 ?g5 (w.heap.size + 1 + 1) (((w.alloc (.cells #[v0, .slice A1 l1.length c1] 33)).alloc (.cells #[.int .i64 0, .int .i64 0, .int .i64 0, .int .i64 0, .int .i64 0] 116)).alloc (.cells #[.int .i64 0, .int .i64 0, .int .i64 0, .int .i64 0, .int .i64 0] 116)) ?g6 ?g7 ?g8; (case g1 => exact blk_drew (by rw [show w.heap.size + 1 + 1 = ((w.alloc (.cells #[v0, .slice A1 l1.length c1] 33)).alloc (.cells #[.int .i64 0, .int .i64 0, .int .i64 0, .int .i64 0, .int .i64 0] 116)).heap.size from by simp]; exact blk_new _ _)); (case g2 => rw [List.length_map, List.length_take]; exact Nat.min_comm _ _); (case g3 => exact fun hp => ⟨rfl, by obtain ⟨ad, e, h⟩ := HS.out hp; exact ⟨ad, e, fun j v hj => by have h1 := h j v hj; rw [← h1]; exact (below_alloc (below_alloc (below_alloc (Below.refl w.heap.size w) _) _) _).cell (World.block_lt_of_cell? w _ h1)⟩⟩); (case g4 => simp; omega); (case g5 => intro v hv; obtain ⟨x, _, rfl⟩ := List.mem_map.1 hv; rfl); (case g6 => exact below_drew (Below.refl _ _)); (case g7 => omega); intro w' hw hb; rw [HCS.out] at hw))
 have hbb := hb.mono (show w.heap.size ≤ w.heap.size + 1 + 1 by omega)
 have hsz := hb.size
 have hc2 : w'.heap[w.heap.size + 1]? = some (.cells #[.int .i64 0, .int .i64 0, .int .i64 0, .int .i64 0, .int .i64 0] 116 (0, 0)) := (hb.block (w.heap.size + 1) (by omega)).trans (blk_alloc (by rw [show w.heap.size + 1 = (w.alloc (.cells #[v0, .slice A1 l1.length c1] 33)).heap.size from by simp]; exact blk_new _ _) _)
 have H2 := Aside0.mk hc2
 have hw2 : w'.heap[w.heap.size + 1 + 1]? = some (.cells #[.int .i64 (l1.getD 0 0), .int .i64 (l1.getD 1 0), .int .i64 (l1.getD 2 0), .int .i64 (l1.getD 3 0), .int .i64 (l1.getD 4 0)] 116 (0, 0)) := hw.out
 have hK : keyCells l1 = #[.int .i64 (l1.getD 0 0), .int .i64 (l1.getD 1 0), .int .i64 (l1.getD 2 0), .int .i64 (l1.getD 3 0), .int .i64 (l1.getD 4 0)] := rfl
 have HK := Aside0.mk hK
 clear hK
 generalize l1.getD 0 0 = k0, l1.getD 1 0 = k1, l1.getD 2 0 = k2, l1.getD 3 0 = k3, l1.getD 4 0 = k4 at hw2 HK
 have hx0 : w'.cell? ⟨w.heap.size + 1 + 1, 0, none⟩ = some (.int .i64 k0) := blk_cell hw2 0
 have hx1 : w'.cell? ⟨w.heap.size + 1 + 1, 1, none⟩ = some (.int .i64 k1) := blk_cell hw2 1
 have hx2 : w'.cell? ⟨w.heap.size + 1 + 1, 2, none⟩ = some (.int .i64 k2) := blk_cell hw2 2
 have hx3 : w'.cell? ⟨w.heap.size + 1 + 1, 3, none⟩ = some (.int .i64 k3) := blk_cell hw2 3
 have hx4 : w'.cell? ⟨w.heap.size + 1 + 1, 4, none⟩ = some (.int .i64 k4) := blk_cell hw2 4
 clear hw2
 have hy0 := blk_cell H2.out 0
 have hy1 := blk_cell H2.out 1
 have hy2 := blk_cell H2.out 2
 have hy3 := blk_cell H2.out 3
 have hy4 := blk_cell H2.out 4
 simp at hy0 hy1 hy2 hy3 hy4
 have hz0 := blk_frozen H2.out 0
 have hz1 := blk_frozen H2.out 1
 have hz2 := blk_frozen H2.out 2
 have hz3 := blk_frozen H2.out 3
 have hz4 := blk_frozen H2.out 4
 have HB := Aside0.mk ((below_alloc (below_alloc (below_alloc (Below.refl w.heap.size w) _) _) _).trans hbb)
 clear hb hbb hc2 hw
 go_wp2
 refine bodyPost_ret (v := .agg #[.int .i64 k0, .int .i64 k1, .int .i64 k2, .int .i64 k3, .int .i64 k4]) (by simp [results, Try.results104, go_sem, hy0, hy1, hy2, hy3, hy4]) rfl ⟨by rw [HK.out], ?_⟩
 exact ((((HB.out.setCell (by simp) _).setCell (by simp) _).setCell (by simp) _).setCell (by simp) _).setCell (by simp) _
end Go.Proofs.Ytjllbahhkeglfaa.P
namespace Go.Proofs.Ytjllbahhkeglfaa.P
open Go.RowKit Go.Proofs.YtjllbahhkeglfaaW.PrintWords Go.Proofs.YtjllbahhkeglfaaW.PrintLast Go.Proofs.YtjllbahhkeglfaaW.PrintMore
set_option linter.unusedVariables false
set_option linter.unusedSimpArgs false
theorem grown_of_below {w W w1 : World} {row : Option Nat} (hb : Below w.heap.size w W) (hg : W.grownBy w1 row) : w.grownBy w1 row :=
 ⟨hg.os.trans hb.os, hg.tape.trans hb.tape, hg.output.trans hb.output, Nat.le_trans hb.size hg.size, fun k hk hne => (hg.block k (Nat.lt_of_lt_of_le hk hb.size) hne).trans (hb.block k hk)⟩
theorem cells_of_blk {W : World} {b t : Nat} {cs : List Value} (hk : W.heap[b]? = some (.cells cs.toArray t (0, 0))) (i : Nat) (u : Value) (hu : cs[i]? = some u) : W.cell? ⟨b, i, none⟩ = some u := by
 rw [blk_cell hk i]; simpa using hu
theorem R_some {α : Type} {d : Kd α} {e base n c : Nat} {ok : Nat → Prop} {A : Option Addr} {w : World} {xs : List α} (h : Kd.R d e w base ok (.slice A n c) xs) (hn : 0 < n) : ∃ g, A = some ⟨g, 0, none⟩ := by
 obtain ⟨inner, hown⟩ := Kd.R_own h
 rcases hown.2 with ⟨e, _⟩ | ⟨g, cap, cur, e, _⟩
 · injection e with e1 e2 e3
   omega
 · injection e with e1 e2 e3
   exact ⟨g, e1⟩
/-- A row shifted from k on, and one put there. -/
theorem shift_ins (l : List Int) (k : Nat) (x : Int) (h : k ≤ l.length) : (((l ++ [0]).take (k + 1) ++ ((l ++ [0]).drop k).take (l.length + 1 - (k + 1))).set k x) = insAt l k x := by
 have e1 : ((l ++ [0]).drop k).take (l.length + 1 - (k + 1)) = l.drop k := by
  rw [List.drop_append_of_le_length h, List.take_append_of_le_length (by rw [List.length_drop]; omega), List.take_of_length_le (by rw [List.length_drop]; omega)]
 have e2 : ∃ y, (l ++ [0]).take (k + 1) = l.take k ++ [y] := by
  rw [List.take_add_one, List.take_append_of_le_length h]
  refine ⟨((l ++ [0])[k]?).getD 0, ?_⟩
  congr 1
  rw [List.getElem?_eq_getElem (by simp; omega)]
  rfl
 obtain ⟨y, e2⟩ := e2
 rw [e1, e2]
 unfold insAt
 have hk : (l.take k).length = k := by rw [List.length_take]; omega
 rw [List.append_assoc, List.set_append_right _ _ (by omega), hk]
 simp
section
variable {P : Program} {ops : Array Oper} {o : Oper} {a : Act} {Q : Exit → Act → World → Prop} {Kc : Act → World → Prop} {E : Prop} {α : Type}
theorem N_app_step (d : Kd α) {w0 w4 W : World} (base : Nat) (hgd : o.guard = none) (s x : Operand) (t e : TypeId) (z : Value) (bytes : Nat)
 (ho : o.op = .call { callee := .builtin .append, args := #[s, x], argTypes := #[t, t] })
 (ht : P.underlying t = some (.slice e)) (hinfo : (P.info? e).map (fun i => (i.zero, i.size, i.bytes)) = some (some z, d.sz, bytes)) (hz : z.cells.size = d.sz) (hs0 : 0 < d.sz) (hb0 : 0 < bytes)
 (v : Value) (xs : List α) (p : α) (cs : List Value) (ok : Nat → Prop) (b : Nat) (hs : a.eval s = v) (hx : a.eval x = .slice (some ⟨b, 0, none⟩) 1 1)
 (hN : Kd.N d e w4 base ok v xs) (hfr : ∀ k, w4.heap.size ≤ k → ok k) (hF : ∀ W1, Below w4.heap.size w4 W1 → Kd.FK d W1 (fun k => ok k ∧ some k ≠ v.ownBlock) p cs) (hbw : Below base w0 w4) (hbase : base ≤ w4.heap.size) (hl : (xs.length + 1) * bytes ≤ 140737488355328)
 (hB : Below w4.heap.size w4 W) (hb : w4.heap.size ≤ b) (hk : W.heap[b]? = some (.cells cs.toArray e (0, 0)))
 (h : ∀ v1 w1, Kd.N d e w1 base ok v1 (xs ++ [p]) → Below base w0 w1 → w4.grownBy w1 v.ownBlock → (v1.ownBlock = v.ownBlock ∨ ∃ b, v1.ownBlock = some b ∧ w4.heap.size ≤ b) → Kc (a.put o.dst v1) w1) :
 if Region.wanted o (yielded ops a.tmps) = true then Oper.wp P o a W Kc Q else E := by
 have hw : Region.wanted o (yielded ops a.tmps) = true := by simp [Region.wanted, hgd]
 rw [if_pos hw]
 have hF1 := hF W hB
 have hnb : ∀ k, v.ownBlock = some k → k < w4.heap.size := fun k hk => Kd.N_lt hN k hk
 have hC : Kd.F d W (fun k => k = b ∨ (ok k ∧ some k ≠ v.ownBlock)) (some ⟨b, 0, none⟩) 1 [p] := by
  intro W' hW'
  have hkb : W'.heap[b]? = some (.cells cs.toArray e (0, 0)) := (hW' b (.inl rfl) (blk_lt hk)).trans hk
  have hK : d.K W' p cs := hF1 W' (fun k hk => hW' k (.inr hk))
  refine ⟨rfl, by omega, fun _ => ⟨_, rfl, fun j q hj => ?_⟩⟩
  rcases j with _ | j
  · simp only [List.getElem?_cons_zero, Option.some.injEq] at hj
    subst hj
    refine ⟨cs, d.K_len hK, hK, fun i u hu => ?_⟩
    have := cells_of_blk hkb i u hu
    rw [show ((⟨b, 0, none⟩ : Addr).add (0 * d.sz + i)) = ⟨b, i, none⟩ by simp [Addr.add]; try omega]
    exact this
  · simp at hj
 have hgo := Kd.N_append_rows_step (P := P) (ops := ops) (o := o) (a := a) (Q := Q) (Kc := Kc) d (w0 := w0) (W := W) base hw s x t e z bytes ho ht hinfo hz hs0 hb0 v xs [p] (some ⟨b, 0, none⟩) 1 1 ok (fun k => k = b ∨ (ok k ∧ some k ≠ v.ownBlock)) hs hx (Kd.N_below hN hB) hC
  (fun k hk => hk.elim (fun e => e ▸ ⟨hfr b hb, fun e2 => by have := hnb b e2.symm; omega⟩) id) (fun k hk => hfr k (Nat.le_trans hB.size hk)) (hbw.trans (hB.mono hbase)) (Nat.le_trans hbase hB.size) hl
  (fun v1 w1 h1 h2 h3 h4 => h v1 w1 h1 h2 (grown_of_below hB h3) (h4.imp id (fun ⟨b, e, hb⟩ => ⟨b, e, Nat.le_trans hB.size hb⟩)))
 rwa [if_pos hw] at hgo
theorem R_app_step (d : Kd α) {w0 w4 W : World} (base : Nat) (hgd : o.guard = none) (s x : Operand) (t e : TypeId) (z : Value) (bytes : Nat)
 (ho : o.op = .call { callee := .builtin .append, args := #[s, x], argTypes := #[t, t] })
 (ht : P.underlying t = some (.slice e)) (hinfo : (P.info? e).map (fun i => (i.zero, i.size, i.bytes)) = some (some z, d.sz, bytes)) (hz : z.cells.size = d.sz) (hs0 : 0 < d.sz) (hb0 : 0 < bytes)
 (v : Value) (xs : List α) (p : α) (cs : List Value) (ok : Nat → Prop) (b : Nat) (hs : a.eval s = v) (hx : a.eval x = .slice (some ⟨b, 0, none⟩) 1 1)
 (hN : Kd.R d e w4 base ok v xs) (hfr : ∀ k, w4.heap.size ≤ k → ok k) (hM : ∀ W base, d.M W base (fun _ => False) p cs) (hbw : Below base w0 w4) (hbase : base ≤ w4.heap.size) (hl : (xs.length + 1) * bytes ≤ 140737488355328)
 (hB : Below w4.heap.size w4 W) (hk : W.heap[b]? = some (.cells cs.toArray e (0, 0)))
 (h : ∀ v1 w1, Kd.R d e w1 base ok v1 (xs ++ [p]) → Below base w0 w1 → w4.grownBy w1 v.ownBlock → Kc (a.put o.dst v1) w1) :
 if Region.wanted o (yielded ops a.tmps) = true then Oper.wp P o a W Kc Q else E := by
 have hw : Region.wanted o (yielded ops a.tmps) = true := by simp [Region.wanted, hgd]
 rw [if_pos hw]
 have hC : ReadsRow (fun q c => q = p ∧ c = cs) d.sz W (some ⟨b, 0, none⟩) 1 [p] := by
  refine ⟨rfl, by omega, fun _ => ⟨_, rfl, fun j q hj => ?_⟩⟩
  rcases j with _ | j
  · simp only [List.getElem?_cons_zero, Option.some.injEq] at hj
    subst hj
    refine ⟨cs, d.K_len (d.K_of_M (hM W base)), ⟨rfl, rfl⟩, fun i u hu => ?_⟩
    have := cells_of_blk hk i u hu
    rw [show ((⟨b, 0, none⟩ : Addr).add (0 * d.sz + i)) = ⟨b, i, none⟩ by simp [Addr.add]; try omega]
    exact this
  · simp at hj
 have hgo := Kd.R_append_rows_step (P := P) (ops := ops) (o := o) (a := a) (Q := Q) (Kc := Kc) d (w0 := w0) (W := W) base hw s x t e z bytes ho ht hinfo hz hs0 hb0 v xs [p] (some ⟨b, 0, none⟩) 1 1 ok (fun _ => False) hs hx (Kd.R_below hN hB) hC
  (fun q c hq => by rw [hq.1, hq.2]; exact hM W base) (fun _ hk => hk.elim) (fun k hk => hfr k (Nat.le_trans hB.size hk)) (hbw.trans (hB.mono hbase)) (Nat.le_trans hbase hB.size) hl
  (fun v1 w1 h1 h2 h3 h4 => h v1 w1 h1 h2 (grown_of_below hB h3))
 rwa [if_pos hw] at hgo
/-- The same in a region that does not draw. -/
theorem R_app (d : Kd α) {rest : List Oper} {Ql : Exit → Act → World → Prop} {w0 w4 W : World} (base : Nat) (hgd : o.guard = none) (s x : Operand) (t e : TypeId) (z : Value) (bytes : Nat)
 (ho : o.op = .call { callee := .builtin .append, args := #[s, x], argTypes := #[t, t] })
 (ht : P.underlying t = some (.slice e)) (hinfo : (P.info? e).map (fun i => (i.zero, i.size, i.bytes)) = some (some z, d.sz, bytes)) (hz : z.cells.size = d.sz) (hs0 : 0 < d.sz) (hb0 : 0 < bytes)
 (v : Value) (xs : List α) (p : α) (cs : List Value) (ok : Nat → Prop) (b : Nat) (hs : a.eval s = v) (hx : a.eval x = .slice (some ⟨b, 0, none⟩) 1 1)
 (hN : Kd.R d e w4 base ok v xs) (hfr : ∀ k, w4.heap.size ≤ k → ok k) (hM : ∀ W base, d.M W base (fun _ => False) p cs) (hbw : Below base w0 w4) (hbase : base ≤ w4.heap.size) (hl : (xs.length + 1) * bytes ≤ 140737488355328)
 (hB : Below w4.heap.size w4 W) (hk : W.heap[b]? = some (.cells cs.toArray e (0, 0)))
 (h : ∀ v1 w1, Kd.R d e w1 base ok v1 (xs ++ [p]) → Below base w0 w1 → w4.grownBy w1 v.ownBlock → wpList P ops Ql rest (a.put o.dst v1) w1) :
 wpList P ops Ql (o :: rest) a W := by
 refine wpList_plain hgd fun K hK => ?_
 have hw : Region.wanted o (yielded ops a.tmps) = true := by simp [Region.wanted, hgd]
 have := R_app_step (P := P) (ops := ops) (o := o) (a := a) (Q := Ql) (Kc := K) (E := True) d base hgd s x t e z bytes ho ht hinfo hz hs0 hb0 v xs p cs ok b hs hx hN hfr hM hbw hbase hl hB hk (fun v1 w1 h1 h2 h3 => hK _ _ (h v1 w1 h1 h2 h3))
 rwa [if_pos hw] at this
/-- copy(v[k+1:], v[k:]) in one row of numbers. -/
theorem R_shift_step {w0 W : World} (base : Nat) (hgd : o.guard = none) (ds s : Operand) (dT sT : TypeId)
 (ho : o.op = .call { callee := .builtin .copy, args := #[ds, s], argTypes := #[dT, sT] }) {et : Nat} (hu : P.underlying dT = some (.slice et)) (hsz : (P.info? et).map (·.size) = some 1)
 (g n cap k : Nat) (dp : Option Addr) (dc sc : Nat) (xs : List Int) (ok : Nat → Prop) (hk : k + 1 ≤ n) (hn : n = xs.length)
 (hd : a.eval ds = .slice dp (n - (k + 1)) dc) (hs : a.eval s = .slice (some ⟨g, k, none⟩) (n - k) sc) (hdp : k + 1 < n → dp = some ⟨g, k + 1, none⟩)
 (hR : Kd.R (Kd.int .i64) et W base ok (.slice (some ⟨g, 0, none⟩) n cap) xs) (HB : Below base w0 W)
 (h : ∀ w1, Kd.R (Kd.int .i64) et w1 base ok (.slice (some ⟨g, 0, none⟩) n cap) (xs.take (k + 1) ++ (xs.drop k).take (n - (k + 1))) → Below base w0 w1 → W.grownBy w1 (some g) → Kc (a.put o.dst (goInt ((n : Int) - ((k : Int) + 1)))) w1) :
 if Region.wanted o (yielded ops a.tmps) = true then Oper.wp P o a W Kc Q else E := by
 have hw : Region.wanted o (yielded ops a.tmps) = true := by simp [Region.wanted, hgd]
 rw [if_pos hw]
 by_cases h0 : k + 1 = n
 · have hrun := run_copy_none (P := P) W dT sT o.type et dp (some ⟨g, k, none⟩) (n - (k + 1)) dc (n - k) sc hu hsz (by show min _ _ = 0; omega)
   unfold Oper.wp
   simp [execOp, ho, resolve, invoke, builtin, hd, hs, hrun, Result.andThen]
   have := h W (by rw [← h0]; simpa [← h0, List.take_of_length_le (show xs.length ≤ k + 1 by omega)] using hR) HB (World.grownBy.refl W _)
   rw [show (goInt ((n : Int) - ((k : Int) + 1))) = goInt 0 by congr 1; omega] at this
   exact this
 · obtain rfl := hdp (by omega)
   obtain ⟨_, inner, hown⟩ := Kd.R_own hR
   have ho2 := Kd.own_of_R hR
   rcases ho2.2 with ⟨e, _⟩ | ⟨g', cap', cur, e, hbg, hblk, hnc, hcm, hcs, hcur⟩
   · cases e
   · injection e with e1 e2 e3
     injection e1 with e1
     injection e1 with e1
     subst e1; subst e3
     have hlen : (encs (Value.int .i64) xs).length = n := by rw [encs_length]; omega
     have hcsn : (encs (Value.int .i64) ((xs.drop k).take (n - (k + 1)))).length = n - (k + 1) := by rw [encs_length, List.length_take, List.length_drop]; omega
     have hrun := run_copy_row (P := P) W dT sT o.type et g (k + 1) (n - (k + 1)) dc ⟨g, k, none⟩ (n - k) sc cur et (encs (Value.int .i64) ((xs.drop k).take (n - (k + 1)))) hu hsz hblk
      (by rw [hcsn]; show _ = min _ _; omega)
      (fun j v hj => by
        have hc := Kd.R_cell (d := (0 : Int)) (hn ▸ hR) ((k + j : Nat) : Int) (by omega) (by have := (List.getElem?_eq_some_iff.1 hj).1; omega)
        rw [Int.toNat_natCast] at hc
        have hv : v = .int .i64 (rdOf 0 xs ((k + j : Nat) : Int)) := by
         have hjl := (List.getElem?_eq_some_iff.1 hj).1
         simp only [encs, List.getElem?_map, List.getElem?_take, List.getElem?_drop] at hj
         rw [if_pos (by omega)] at hj
         simp only [rdOf, Int.toNat_natCast, List.getD_eq_getElem?_getD]
         rw [List.getElem?_eq_getElem (by omega : k + j < xs.length)] at hj ⊢
         simpa using hj.symm
        rw [hv, show ((⟨g, k, none⟩ : Addr).add j) = ⟨g, k + j, none⟩ by simp [Addr.add]]
        exact hc.1)
      (by rw [hcsn]; omega) (by intro v hv; obtain ⟨x, _, rfl⟩ := List.mem_map.1 hv; rfl)
     unfold Oper.wp
     simp [execOp, ho, resolve, invoke, builtin, hd, hs, hrun, Result.andThen]
     rw [hcsn]
     have hnew := setRow_heap W g _ ((cur.toList.take (k + 1) ++ encs (Value.int .i64) ((xs.drop k).take (n - (k + 1))) ++ cur.toList.drop (k + 1 + (n - (k + 1)))).toArray) et _ hblk
     have ht : cur.toList.take (k + 1) = encs (Value.int .i64) (xs.take (k + 1)) := by
      have e1 : (cur.toList.take (xs.length * 1)).take (k + 1) = cur.toList.take (k + 1) := by rw [List.take_take]; congr 1; omega
      rw [← e1, hcur]
      simp [encs, List.map_take]
     have hlt : (cur.toList.take (k + 1)).length = k + 1 := by rw [List.length_take, Array.length_toList]; omega
     have hl2 : (xs.take (k + 1) ++ (xs.drop k).take (n - (k + 1))).length = n := by rw [List.length_append, List.length_take, List.length_take, List.length_drop]; omega
     have hfin := h (W.setRow g ((cur.toList.take (k + 1) ++ encs (Value.int .i64) ((xs.drop k).take (n - (k + 1))) ++ cur.toList.drop (k + 1 + (n - (k + 1)))).toArray)) ?_ (below_setRow HB hbg _) ⟨rfl, rfl, rfl, by simp [World.setRow], fun q _ hne => setRow_other W g q _ (fun e => hne (by rw [e]))⟩
     · rw [show (((n - (k + 1) : Nat)) : Int) = (n : Int) - ((k : Int) + 1) by omega]
       simp at hfin ⊢
       exact hfin
     · refine Kd.R_of_own ⟨by rw [encs_length, hl2, Nat.mul_one], .inr ⟨g, cap, _, by rw [hl2, hn], hbg, hnew, by omega, hcm, ?_, ?_⟩⟩ hR.1
       · simp only [List.size_toArray, List.length_append, hlt, hcsn, List.length_drop, Array.length_toList]; omega
       · rw [hl2, Nat.mul_one]
         show (cur.toList.take (k + 1) ++ _ ++ _).take n = _
         rw [List.take_append_of_le_length (by rw [List.length_append, hlt, hcsn]; omega), List.take_of_length_le (by rw [List.length_append, hlt, hcsn]; omega), encs_append, ht]
end
section
variable {w wx : World} {g b9 b10 : Nat} {all : List S33} {fr : List Int} {ms : List S56} {far ord : List Int} {vl : Value} {ls : List S56} {m : S56} {s nx : List Int} {A4 A5 : Option Addr} {c4 c5 : Nat}
/-- The row in field 4: what a store in it asks, and what it leaves. -/
theorem Mid.row4s (h : Mid w wx g b9 b10 all fr ms far ord vl ls m s nx A4 c4 A5 c5) : ∃ (v0 va : Value) (ok : Nat → Prop), wx.cell? ⟨g, 4, none⟩ = some v0 ∧ (∃ A c, v0 = .slice A ord.length c) ∧ wx.cell? ⟨g, 0, none⟩ = some va ∧ (∃ A c, va = .slice A all.length c) ∧ Kd.R (Kd.int .i64) 3 wx w.heap.size ok v0 ord ∧
 ∀ (l : List Int) (w1 : World), Kd.R (Kd.int .i64) 3 w1 w.heap.size ok v0 l → Below w.heap.size w w1 → wx.grownBy w1 v0.ownBlock → Mid w w1 g b9 b10 all fr ms far l vl ls m s nx A4 c4 A5 c5 := by
 obtain ⟨c, va, vf, vm, vd, vo, M, h9, h10, k9, k10, hF⟩ := h
 have M1 := M.upd 5
 have hF1 := FK_col hF (c' := upd c wx.heap.size 5) (fun k hk => upd_lt hk)
 have h91 : upd c wx.heap.size 5 b9 = 8 := (upd_lt (blk_lt k9)).trans h9
 have h101 : upd c wx.heap.size 5 b10 = 8 := (upd_lt (blk_lt k10)).trans h10
 have hne : ∀ k, vo.ownBlock = some k → k ≠ b9 ∧ k ≠ b10 ∧ k ≠ g := fun k hk => ⟨fun e => absurd ((M1.no.1 k hk).symm.trans ((congrArg _ e).trans h91)) (by decide), fun e => absurd ((M1.no.1 k hk).symm.trans ((congrArg _ e).trans h101)) (by decide), fun e => absurd ((M1.no.1 k hk).symm.trans ((congrArg _ e).trans M1.cg)) (by decide)⟩
 have hnb9 : some b9 ≠ vo.ownBlock := fun e => (hne b9 e.symm).1 rfl
 have hnb10 : some b10 ≠ vo.ownBlock := fun e => (hne b10 e.symm).2.1 rfl
 have hng : some g ≠ vo.ownBlock := fun e => (hne g e.symm).2.2 rfl
 refine ⟨vo, va, fun k => upd c wx.heap.size 5 k = 5, (blk_cell M.blk 4).trans rfl, Kd.R_slice M.no, (blk_cell M.blk 0).trans rfl, Kd.N_slice M.na, M1.no, ?_⟩
 intro l w1 hR hb hg
 refine ⟨upd c wx.heap.size 5, va, vf, vm, vd, vo, ⟨blk_grown M1.blk hg hng, M1.cg, M1.gb, M1.a1, N2_oth (j := 5) M1.na (fun k hk => M1.no.1 k hk) (by decide) (by decide) hg, R_oth M1.nf (fun k hk => M1.no.1 k hk) (by decide) hg, R_oth M1.nm (fun k hk => M1.no.1 k hk) (by decide) hg, R_oth M1.nd (fun k hk => M1.no.1 k hk) (by decide) hg, hR, R_oth M1.nl (fun k hk => M1.no.1 k hk) (by decide) hg, hb⟩, h91, h101, blk_grown k9 hg hnb9, blk_grown k10 hg hnb10, ?_⟩
 exact Kd.FK_step hF1 (fun k hk hlt => hg.block k hlt (fun e => absurd (hk.symm.trans (M1.no.1 k e.symm)) (by decide)))
end
end Go.Proofs.Ytjllbahhkeglfaa.P
