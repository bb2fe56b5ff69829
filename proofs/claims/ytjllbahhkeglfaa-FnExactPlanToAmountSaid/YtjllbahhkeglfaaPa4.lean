/- The program's PlanToAmount returns what the reference's returns, for all arguments (part 4 of its texts). No conditions. -/
import Derived.Test.YtjllbahhkeglfaaProg
import Derived.Lib.Hide
import Derived.Deep.RegionLaw
import Derived.Lib.LazyBuf
import Derived.Shelf.Abstract
import Derived.Laws.CopyOwn
import Derived.WideKeyPair
import Derived.Maps.OwnSet
import Derived.Maps.Views
import Derived.Below
import Derived.Deep.Draws
import Derived.Deep.AppendLies
import Derived.Maps.AppendAt
import Derived.OwnWalk
import Derived.Laws.BytesArg
import Derived.Laws.MakeOwn
import Derived.Laws.OwnMore
import Derived.Deep.OwnRows
import Derived.Tactics
import Derived.Lib.ConvBytes
import Derived.Laws.Slices
import Derived.WalkKit
import Derived.KernelRfl
import Derived.RowKit3
import Derived.Deep.LoopGhost
import Derived.Deep.QuietTactic
import Derived.BigQuiet
import Derived.WideLaws
import Derived.Deep.DeepCutAuto
import Derived.Deep.CutBlock
import Derived.Deep.RegionHeld3
import Derived.Laws.Rows
import Derived.Lib.AppendStr
import Derived.ArgAppend
import Derived.Laws.IdiomCopy
import Derived.OrdersHeld
import Derived.Laws.BitsLemmas
import Derived.RowKit
import Derived.OpenShut
import Derived.ShutString
import Derived.ChangeOld
import Derived.SizedLaws
import Derived.Lib.SmallJoins
import Derived.Test.YtjllbahhkeglfaaWWords
import Derived.Test.YtjllbahhkeglfaaWLast
import Derived.Test.YtjllbahhkeglfaaWTab
import Derived.Test.YtjllbahhkeglfaaWQPut
import Derived.Test.YtjllbahhkeglfaaWApart
import Derived.Test.YtjllbahhkeglfaaWArr
import Derived.Test.YtjllbahhkeglfaaWZeros
import Derived.Test.YtjllbahhkeglfaaWFoot
import Derived.Test.YtjllbahhkeglfaaWKept
import Derived.Test.YtjllbahhkeglfaaWShare
import Derived.Test.YtjllbahhkeglfaaWN
import Derived.Test.YtjllbahhkeglfaaWFootNe
import Derived.Test.YtjllbahhkeglfaaWRepsOne
import Derived.Test.YtjllbahhkeglfaaWInv
import Derived.Test.YtjllbahhkeglfaaWInvWords
import Derived.Test.YtjllbahhkeglfaaWGuard
import Derived.Test.YtjllbahhkeglfaaWNEv
import Derived.Test.YtjllbahhkeglfaaWMore
import Derived.Test.YtjllbahhkeglfaaPa1
import Derived.Test.YtjllbahhkeglfaaPa3
import Derived.Test.YtjllbahhkeglfaaPa2
namespace Go.Proofs.Ytjllbahhkeglfaa.P
open Go.RowKit Go.Proofs.YtjllbahhkeglfaaW.PrintWords Go.Proofs.YtjllbahhkeglfaaW.PrintLast Go.Proofs.YtjllbahhkeglfaaW.PrintMore
attribute [local go_sem] max2_int min2_int max_two min_two max_three min_three max_four min_four
set_option linter.unusedVariables false
set_option linter.unusedSimpArgs false

/-! ### impl_Move_144: function 144 -/
def impl_Move_144.l0 : Nat → List (S56) → Int → Int → Option ((List (S56)))
 | 0, _, _, _ => none
 | k + 1, x0, x2, x3 => if x2 < x3 then (if 0 ≤ x3 then (if x3 < (x0.length : Int) then (if 0 ≤ x2 then (if x2 < (x0.length : Int) then (impl_Move_144.l0 k ((x0.set (x2 : Int).toNat (⟨(rd_T56 x0 x3).f0, (rd_T56 x0 x3).f1⟩ : S56)).set (x3 : Int).toNat (⟨(rd_T56 x0 x2).f0, (rd_T56 x0 x2).f1⟩ : S56)) (wrap64 (x2 + 1)) (wrap64 (x3 - 1))) else (none)) else (none)) else (none)) else (none)) else (some x0)
def impl_Move_144.f (k : Nat) (l0 : List (S56)) : Option ((List (S56))) := impl_Move_144.l0 k l0 0 (wrap64 ((l0.length : Int) - 1))
theorem impl_Move_144.mono_l : ∀ k, (∀ y0 y1 y2, LeO (impl_Move_144.l0 k y0 y1 y2) (impl_Move_144.l0 (k + 1) y0 y1 y2))
 | 0 => fun _ _ _ r h => by simp [impl_Move_144.l0] at h
 | k + 1 => by
   have ih0 := impl_Move_144.mono_l k
   · intro y0 y1 y2
     unfold impl_Move_144.l0
     repeat' first
     | (with_reducible exact ih0 _ _ _)
     | (with_reducible exact LeO.refl _)
     | (with_reducible exact LeO.none _)
     | (with_reducible refine LeO.ite ?_ ?_)
     | (with_reducible refine LeO.bind ?_ (fun _ => ?_))
     | exact ih0 _ _ _
     | exact LeO.none _
     | refine LeO.ite ?_ ?_
     | refine LeO.bind ?_ (fun _ => ?_)
theorem impl_Move_144.mono : ∀ a0 k, LeO (impl_Move_144.f k a0) (impl_Move_144.f (k + 1) a0) := by
 intro a0 k
 have ih0 := impl_Move_144.mono_l k
 unfold impl_Move_144.f
 repeat' first
  | (with_reducible exact ih0 _ _ _)
  | (with_reducible exact LeO.refl _)
  | (with_reducible exact LeO.none _)
  | (with_reducible refine LeO.ite ?_ ?_)
  | (with_reducible refine LeO.bind ?_ (fun _ => ?_))
  | exact ih0 _ _ _
  | exact LeO.none _
  | refine LeO.ite ?_ ?_
  | refine LeO.bind ?_ (fun _ => ?_)
def impl_Move_144.T3 : Bool × List (List Nat × List Nat) := (true, [([], []), ([], []), ([], []), ([], []), ([], []), ([], []), ([4, 5], [4, 5]), ([6], [6]), ([], []), ([], []), ([8, 9], [8, 9]), ([10], [10]), ([0, 1, 0, 1, 4, 5, 6, 7, 11], [0, 1]), ([12, 7, 0, 1, 4, 5, 6, 7, 11], [7, 12]), ([2, 3, 0, 1, 2, 3, 4, 5, 6, 7, 8, 9, 10, 11, 12, 13], [2, 3]), ([14, 11, 13, 0, 1, 2, 3, 4, 5, 6, 7, 8, 9, 10, 11, 12, 13], [11, 14])])
def impl_Move_144.B3 : List Nat := [0, 0, 0, 0, 0, 0, 48, 112, 0, 0, 768, 1792, 4083, 8179, 16383, 32767]
theorem impl_Move_144.tab3 : rtab .any (opsOf Try.f144 3) = impl_Move_144.T3 := by kernel_rfl
theorem impl_Move_144.bits3 : waitsOk impl_Move_144.T3.2 impl_Move_144.B3 = true := by kernel_rfl
set_option maxHeartbeats 8000000 in
set_option maxRecDepth 100000 in
theorem impl_Move_144.calls (k : Nat) (P0_ : Nat → Prop) (u9000_ : Value) (l0 : List (S56)) (r : List (S56)) (w0 w : World) (hB : Below w0.heap.size w0 w) (ho0 : Kd.R k56 56 w w0.heap.size P0_ u9000_ l0) (h : impl_Move_144.f k l0 = some r) :
 Calls Try.prog 144 #[u9000_] w fun e w' => e = .returned (.tuple #[]) ∧ Kd.R k56 56 w' w0.heap.size (fun k_ => (P0_ k_ ∨ w.heap.size ≤ k_)) u9000_ r ∧ Below w0.heap.size w0 w' ∧ Kept w w' (fun k_ => P0_ k_) := by
 have hu56 := Try.underlying56
 have HO0 := Aside0.mk (show Kd.R k56 56 w w0.heap.size (fun k_ => (P0_ k_ ∨ w.heap.size ≤ k_)) u9000_ l0 from Kd.R_mono ho0 (fun k_ hk => (.inl hk)))
 have HK := Aside0.mk (Kept.refl w (fun k_ => P0_ k_))
 have HW0 := Aside0.mk hB.size
 have HB := Aside0.mk hB
 clear hB
 have H : (impl_Move_144.l0 k l0 0 (wrap64 ((l0.length : Int) - 1))) = some r := h
 clear h
 have H' := Aside0.mk H
 clear H
 obtain ⟨Ao2, co2, eo2⟩ := Kd.R_slice HO0.out
 subst eo2
 go_enter Try.func144, Try.ntmps144
 go_wp2
 go_loopg [2, 3] k (fun kq v2 v3 w' => ∃ (x0_1 : List (S56)) (x2_1 : Int) (x3_1 : Int), v2 = .int .i64 x2_1 ∧ v3 = .int .i64 x3_1 ∧ Aside0 (impl_Move_144.l0 kq x0_1 x2_1 x3_1 = some r) ∧ Aside0 (kq ≤ k) ∧ Aside0 (Kd.R k56 56 w' w0.heap.size (fun k_ => (P0_ k_ ∨ w.heap.size ≤ k_)) (.slice Ao2 l0.length co2) x0_1) ∧ Aside0 (Kept w w' (fun k_ => P0_ k_)) ∧ Aside0 (Below w0.heap.size w0 w'))
 case atStart => exact ⟨(l0), (0), (wrap64 ((l0.length : Int) - 1)), (by first | rfl | (simp; done) | (simp [*]; done)), (by first | rfl | (simp; done) | (simp [*]; done)), H', ⟨Nat.le_refl _⟩, ⟨by (with_reducible repeat (first | apply Kd.R_alloc | apply Kd.R_drewN | apply Kd.R_drew)); exact HO0.out⟩, ⟨by repeat (first | (with_reducible first | exact HK.out | apply Kept.alloc | apply Kept.drewN | apply Kept.drew) | exact HK.out)⟩, ⟨by repeat (first | (with_reducible first | exact HB.out | apply below_alloc | apply pw_below_drewN | apply below_drew1) | exact HB.out)⟩⟩
 case round =>
  clear H'
  try clear c1
  try clear p2
  obtain ⟨x0_1, x2_1, x3_1, rfl, rfl, HA, HK1, HO_0, HK, HB⟩ := hrel
  have hl0_1 := (Kd.R_reads' HO_0.out).1
  rw [hl0_1] at HO_0
  (try simp only [hl0_1])
  cases gk with
  | zero => exact absurd HA.out (by simp [impl_Move_144.l0])
  | succ k1 =>
    have H := HA.out
    clear HA
    simp only [impl_Move_144.l0] at H
    by_cases c3 : x2_1 < x3_1
    · rw [if_pos c3] at H
      have c3b0 : decide (x2_1 < x3_1) = true := decide_eq_true c3
      clear c3
      by_cases c4 : 0 ≤ x3_1
      · rw [if_pos c4] at H
        have c4b0 : decide (0 ≤ x3_1) = true := decide_eq_true c4
        clear c4
        by_cases c5 : x3_1 < (x0_1.length : Int)
        · rw [if_pos c5] at H
          have c5b0 : decide (x3_1 < (x0_1.length : Int)) = true := decide_eq_true c5
          clear c5
          by_cases c6 : 0 ≤ x2_1
          · rw [if_pos c6] at H
            have c6b0 : decide (0 ≤ x2_1) = true := decide_eq_true c6
            clear c6
            by_cases c7 : x2_1 < (x0_1.length : Int)
            · rw [if_pos c7] at H
              have c7b0 : decide (x2_1 < (x0_1.length : Int)) = true := decide_eq_true c7
              clear c7
              have ne0_ : ¬ (x3_1.toNat * 2 = x2_1.toNat * 2) := by have g1_ := of_decide_eq_true c3b0; have g2_ := of_decide_eq_true c4b0; have g3_ := of_decide_eq_true c6b0; omega
              have ne1_ : ¬ (x2_1.toNat * 2 = x3_1.toNat * 2) := by have g1_ := of_decide_eq_true c3b0; have g2_ := of_decide_eq_true c4b0; have g3_ := of_decide_eq_true c6b0; omega
              have ne2_ : ¬ (x3_1.toNat * 2 = x2_1.toNat * 2 + 1) := by have g1_ := of_decide_eq_true c3b0; have g2_ := of_decide_eq_true c4b0; have g3_ := of_decide_eq_true c6b0; omega
              have ne3_ : ¬ (x2_1.toNat * 2 + 1 = x3_1.toNat * 2) := by have g1_ := of_decide_eq_true c3b0; have g2_ := of_decide_eq_true c4b0; have g3_ := of_decide_eq_true c6b0; omega
              have ne4_ : ¬ (x3_1.toNat * 2 + 1 = x2_1.toNat * 2) := by have g1_ := of_decide_eq_true c3b0; have g2_ := of_decide_eq_true c4b0; have g3_ := of_decide_eq_true c6b0; omega
              have ne5_ : ¬ (x2_1.toNat * 2 = x3_1.toNat * 2 + 1) := by have g1_ := of_decide_eq_true c3b0; have g2_ := of_decide_eq_true c4b0; have g3_ := of_decide_eq_true c6b0; omega
              have ne6_ : ¬ (x3_1.toNat = x2_1.toNat) := by have g1_ := of_decide_eq_true c3b0; have g2_ := of_decide_eq_true c4b0; have g3_ := of_decide_eq_true c6b0; omega
              have ne7_ : ¬ (x2_1.toNat = x3_1.toNat) := by have g1_ := of_decide_eq_true c3b0; have g2_ := of_decide_eq_true c4b0; have g3_ := of_decide_eq_true c6b0; omega
              obtain ⟨y103, hy103⟩ : ∃ y_ : List (S56), y_ = (x0_1.set (x2_1 : Int).toNat (⟨(rd_T56 x0_1 x3_1).f0, (rd_T56 x0_1 x3_1).f1⟩ : S56)) := ⟨_, rfl⟩
              replace H : (impl_Move_144.l0 k1 (y103.set (x3_1 : Int).toNat (⟨(rd_T56 x0_1 x2_1).f0, (rd_T56 x0_1 x2_1).f1⟩ : S56)) (wrap64 (x2_1 + 1)) (wrap64 (x3_1 - 1))) = some r := by first | (rw [hy103]; with_reducible exact H) | (have H2_ := (Option.bind_some _ _).symm.trans H; rw [hy103]; with_reducible exact H2_) | (have H2_ := (Option.bind_some _ _).symm.trans H; with_reducible exact H2_) | with_reducible exact H | (rw [hy103]; exact H) | exact H
              have Ny103 := Aside0.mk hy103
              clear hy103
              obtain ⟨y104, hy104⟩ : ∃ y_ : List (S56), y_ = (y103.set (x3_1 : Int).toNat (⟨(rd_T56 x0_1 x2_1).f0, (rd_T56 x0_1 x2_1).f1⟩ : S56)) := ⟨_, rfl⟩
              replace H : (impl_Move_144.l0 k1 y104 (wrap64 (x2_1 + 1)) (wrap64 (x3_1 - 1))) = some r := by first | (rw [hy104]; with_reducible exact H) | (have H2_ := (Option.bind_some _ _).symm.trans H; rw [hy104]; with_reducible exact H2_) | (have H2_ := (Option.bind_some _ _).symm.trans H; with_reducible exact H2_) | with_reducible exact H | (rw [hy104]; exact H) | exact H
              have Ny104 := Aside0.mk hy104
              clear hy104
              have H' := Aside0.mk H
              clear H
              try go_wp2
              have n0_ := Aside0.mk (Kd.R_drew HO_0.out)
              have n1_ := Aside0.mk (Kept.drew HK.out)
              have n2_ := Aside0.mk (below_drew1 HB.out)
              clear HO_0
              clear HK
              clear HB
              have HO_0 := n0_
              have HK := n1_
              have HB := n2_
              clear n0_ n1_ n2_
              have p101 : 0 ≤ (x3_1 : Int) := of_decide_eq_true (by first | (with_reducible assumption) | assumption)
              have q101 : x3_1 < (x0_1.length : Int) := of_decide_eq_true (by first | (with_reducible assumption) | assumption)
              obtain ⟨ad101, e101, hx101_0, hx101_1⟩ := at_T56 (Kd.R_reads' HO_0.out).2.2 x3_1 p101 q101
              cases e101
              replace p101 := eq_true p101
              replace q101 := eq_true q101
              have p102 : 0 ≤ (x2_1 : Int) := of_decide_eq_true (by first | (with_reducible assumption) | assumption)
              have q102 : x2_1 < (x0_1.length : Int) := of_decide_eq_true (by first | (with_reducible assumption) | assumption)
              obtain ⟨ad102, e102, hx102_0, hx102_1⟩ := at_T56 (Kd.R_reads' HO_0.out).2.2 x2_1 p102 q102
              obtain rfl : ad101 = ad102 := (by injection e102)
              replace p102 := eq_true p102
              replace q102 := eq_true q102
              have p8 : 0 ≤ (x2_1 : Int) := of_decide_eq_true (by first | (with_reducible assumption) | assumption)
              have q8 : (x2_1 : Int) < ((x0_1.length : Int) : Int) := of_decide_eq_true (by first | (with_reducible assumption) | assumption)
              obtain ⟨go8, co8, eo8, gb8, gl8, cl8, HG8⟩ := Kd.R_form HO_0.out (by omega)
              (first | cases eo8 | (injection eo8 with ea_ en_ ec_; (first | subst ea_ | (injection ea_ with ea_; subst ea_)); subst ec_; clear en_))
              have GB8 := Aside0.mk gb8
              have GG8 := Aside0.mk HG8
              clear gb8 gl8 HG8
              have HMgo8 := Aside0.mk (show (P0_ go8 ∨ w.heap.size ≤ go8) from (HO_0.out.1 _ rfl))
              (first | simp only [add_plain] at hx101_0 | skip)
              (first | simp only [add_plain] at hx101_1 | skip)
              (first | simp only [add_plain] at hx102_0 | skip)
              (first | simp only [add_plain] at hx102_1 | skip)
              obtain ⟨ce8, hcl8, hM8, hcc8, hfr8⟩ := Kd.R_elem HO_0.out z56 (x2_1 : Int) p8 q8
              obtain rfl := k56_openM hM8
              have hx8_0 : World.cell? _ ⟨go8, (x2_1 : Int).toNat * 2, none⟩ = some (.int .i64 ((rd_T56 x0_1 x2_1).f0)) := hcc8 0 _ rfl
              have hx8_1 : World.cell? _ ⟨go8, (x2_1 : Int).toNat * 2 + 1, none⟩ = some (.int .i64 ((rd_T56 x0_1 x2_1).f1)) := hcc8 1 _ rfl
              have hf8_0 : World.frozen? _ ⟨go8, (x2_1 : Int).toNat * 2, none⟩ = false := hfr8 0
              have hf8_1 : World.frozen? _ ⟨go8, (x2_1 : Int).toNat * 2 + 1, none⟩ = false := hfr8 1
              clear hcl8 hcc8 hfr8 hM8
              obtain ⟨ce8b, hcl8b, hM8b, hcc8b, hfr8b⟩ := Kd.R_elem HO_0.out z56 (x3_1 : Int) (of_decide_eq_true c4b0) (of_decide_eq_true c5b0)
              have hf8b_0 : World.frozen? _ ⟨go8, (x3_1 : Int).toNat * 2, none⟩ = false := hfr8b 0
              have hf8b_1 : World.frozen? _ ⟨go8, (x3_1 : Int).toNat * 2 + 1, none⟩ = false := hfr8b 1
              clear hcl8b hcc8b hfr8b hM8b
              replace p8 := eq_true p8
              replace q8 := eq_true q8
              obtain ⟨ce11, hcl11, hM11, hcc11, hfr11⟩ := Kd.R_elem HO_0.out z56 (x2_1 : Int) (of_decide_eq_true (by first | (with_reducible assumption) | assumption)) (by have h_ : (x2_1 : Int) < ((x0_1.length : Int) : Int) := of_decide_eq_true (by first | (with_reducible assumption) | assumption); first | exact h_ | (have e_ := (Kd.R_reads' HO_0.out).1; omega) | simpa using h_)
              obtain rfl := k56_openM hM11
              have HP11 := (Kd.R_seg HO_0.out (x2_1 : Int) (of_decide_eq_true (by first | (with_reducible assumption) | assumption)) (by have h_ : (x2_1 : Int) < ((x0_1.length : Int) : Int) := of_decide_eq_true (by first | (with_reducible assumption) | assumption); first | exact h_ | (have e_ := (Kd.R_reads' HO_0.out).1; omega) | simpa using h_) (seg := [.int .i64 ((rd_T56 x0_1 x3_1).f0), .int .i64 ((rd_T56 x0_1 x3_1).f1)]) (j := 0) hcl11 hcc11 (show 2 ≤ 2 from by decide) (x' := (⟨(rd_T56 x0_1 x3_1).f0, (rd_T56 x0_1 x3_1).f1⟩ : S56)) (k56_mkM _ _ _ (⟨(rd_T56 x0_1 x3_1).f0, (rd_T56 x0_1 x3_1).f1⟩ : S56) ) (fun _ hk => hk)).1
              rw [← Ny103.out] at HP11
              have HQ11 := Aside0.mk HP11
              clear hcl11 hcc11 hfr11 hM11 HP11
              have p9 : 0 ≤ (x3_1 : Int) := of_decide_eq_true (by first | (with_reducible assumption) | assumption)
              have q9 : (x3_1 : Int) < ((x0_1.length : Int) : Int) := of_decide_eq_true (by first | (with_reducible assumption) | assumption)
              obtain ⟨ce9, hcl9, hM9, hcc9, hfr9⟩ := Kd.R_elem HQ11.out z56 (x3_1 : Int) p9 q9
              obtain rfl := k56_openM hM9
              have hx9_0 : World.cell? _ ⟨go8, (x3_1 : Int).toNat * 2, none⟩ = some (.int .i64 ((rd_T56 y103 x3_1).f0)) := hcc9 0 _ rfl
              have hx9_1 : World.cell? _ ⟨go8, (x3_1 : Int).toNat * 2 + 1, none⟩ = some (.int .i64 ((rd_T56 y103 x3_1).f1)) := hcc9 1 _ rfl
              have hf9_0 : World.frozen? _ ⟨go8, (x3_1 : Int).toNat * 2, none⟩ = false := hfr9 0
              have hf9_1 : World.frozen? _ ⟨go8, (x3_1 : Int).toNat * 2 + 1, none⟩ = false := hfr9 1
              clear hcl9 hcc9 hfr9 hM9
              replace p9 := eq_true p9
              replace q9 := eq_true q9
              obtain ⟨ce12, hcl12, hM12, hcc12, hfr12⟩ := Kd.R_elem HQ11.out z56 (x3_1 : Int) (of_decide_eq_true (by first | (with_reducible assumption) | assumption)) (by have h_ : (x3_1 : Int) < ((x0_1.length : Int) : Int) := of_decide_eq_true (by first | (with_reducible assumption) | assumption); first | exact h_ | (have e_ := (Kd.R_reads' HO_0.out).1; omega) | simpa using h_)
              obtain rfl := k56_openM hM12
              have HP12 := (Kd.R_seg HQ11.out (x3_1 : Int) (of_decide_eq_true (by first | (with_reducible assumption) | assumption)) (by have h_ : (x3_1 : Int) < ((x0_1.length : Int) : Int) := of_decide_eq_true (by first | (with_reducible assumption) | assumption); first | exact h_ | (have e_ := (Kd.R_reads' HO_0.out).1; omega) | simpa using h_) (seg := [.int .i64 ((rd_T56 x0_1 x2_1).f0), .int .i64 ((rd_T56 x0_1 x2_1).f1)]) (j := 0) hcl12 hcc12 (show 2 ≤ 2 from by decide) (x' := (⟨(rd_T56 x0_1 x2_1).f0, (rd_T56 x0_1 x2_1).f1⟩ : S56)) (k56_mkM _ _ _ (⟨(rd_T56 x0_1 x2_1).f0, (rd_T56 x0_1 x2_1).f1⟩ : S56) ) (fun _ hk => hk)).1
              rw [← Ny104.out] at HP12
              have HQ12 := Aside0.mk HP12
              clear hcl12 hcc12 hfr12 hM12 HP12
              refine start_ (n := 16) (S := fun w' => w'.cell? ⟨go8, ((x3_1).toNat * 2), none⟩ = some (.int .i64 ((rd_T56 x0_1 x3_1).f0)) ∧ w'.cell? ⟨go8, ((x3_1).toNat * 2) + 1, none⟩ = some (.int .i64 ((rd_T56 x0_1 x3_1).f1)) ∧ w'.cell? ⟨go8, ((x2_1).toNat * 2), none⟩ = some (.int .i64 ((rd_T56 x0_1 x2_1).f0)) ∧ w'.cell? ⟨go8, ((x2_1).toNat * 2) + 1, none⟩ = some (.int .i64 ((rd_T56 x0_1 x2_1).f1))) (ds := [13, 15]) #[false, false, false, false, false, false, false, false, false, false, false, false, false, false, false, false] (by kernel_rfl) rfl rfl ⟨hx101_0, hx101_1, hx102_0, hx102_1⟩ (fun hHeld => ?_); refine with_tabW impl_Move_144.tab3 impl_Move_144.bits3 (fun HT_ HW_ => ?_)
              generalize wr.drew = w10 at HO_0 HK HB GG8 HQ11 HQ12 hf8_0 hf8_1 hf8b_0 hf8b_1 hf9_0 hf9_1 hx101_0 hx101_1 hx102_0 hx102_1 hx8_0 hx8_1 hx9_0 hx9_1 hHeld ⊢
              refine pure_ (i := 0) (N := some 14) (v := ?_) (a' := ?_) #[true, false, false, false, false, false, false, false, false, false, false, false, false, false, false, false] rfl rfl (any_of HT_.out (by kernel_rfl)) (fun _ _ _ h => h) (Or.inl ⟨by rfl, ?_⟩) ?_ ?_
              rotate_left
              · intro w'
                go_simp
                with_reducible rfl
              rotate_left
              · simp only [Act.put, List.setIfInBounds_toArray, List.set_cons_zero, List.set_cons_succ, i64_w, i32_w]
                rfl
              refine pure_ (i := 1) (N := some 15) (v := ?_) (a' := ?_) #[true, true, false, false, false, false, false, false, false, false, false, false, false, false, false, false] rfl rfl (any_of HT_.out (by kernel_rfl)) (fun _ _ _ h => h) (Or.inl ⟨by rfl, ?_⟩) ?_ ?_
              rotate_left
              · intro w'
                go_simp
                with_reducible rfl
              rotate_left
              · simp only [Act.put, List.setIfInBounds_toArray, List.set_cons_zero, List.set_cons_succ, i64_w, i32_w]
                rfl
              refine pure_ (i := 2) (N := some 16) (v := ?_) (a' := ?_) #[true, true, true, false, false, false, false, false, false, false, false, false, false, false, false, false] rfl rfl (any_of HT_.out (by kernel_rfl)) (fun _ _ _ h => h) (Or.inl ⟨by rfl, ?_⟩) ?_ ?_
              rotate_left
              · intro w'
                go_simp
                with_reducible rfl
              rotate_left
              · simp only [Act.put, List.setIfInBounds_toArray, List.set_cons_zero, List.set_cons_succ, i64_w, i32_w]
                rfl
              refine pure_ (i := 3) (N := some 17) (v := ?_) (a' := ?_) #[true, true, true, true, false, false, false, false, false, false, false, false, false, false, false, false] rfl rfl (any_of HT_.out (by kernel_rfl)) (fun _ _ _ h => h) (Or.inl ⟨by rfl, ?_⟩) ?_ ?_
              rotate_left
              · intro w'
                go_simp
                with_reducible rfl
              rotate_left
              · simp only [Act.put, List.setIfInBounds_toArray, List.set_cons_zero, List.set_cons_succ, i64_w, i32_w]
                rfl
              refine pure_ (i := 4) (N := some 18) (v := ?_) (a' := ?_) #[true, true, true, true, true, false, false, false, false, false, false, false, false, false, false, false] rfl rfl (any_of HT_.out (by kernel_rfl)) (fun _ _ _ h => h) (Or.inl ⟨by rfl, ?_⟩) ?_ ?_
              rotate_left
              · intro w'
                go_simp
                with_reducible rfl
              rotate_left
              · simp only [Act.put, List.setIfInBounds_toArray, List.set_cons_zero, List.set_cons_succ, i64_w, i32_w]
                rfl
              refine pure_ (i := 5) (N := some 19) (v := ?_) (a' := ?_) #[true, true, true, true, true, true, false, false, false, false, false, false, false, false, false, false] rfl rfl (any_of HT_.out (by kernel_rfl)) (fun _ _ _ h => h) (Or.inl ⟨by rfl, ?_⟩) ?_ ?_
              rotate_left
              · intro w'
                go_simp
                with_reducible rfl
              rotate_left
              · simp only [Act.put, List.setIfInBounds_toArray, List.set_cons_zero, List.set_cons_succ, i64_w, i32_w]
                rfl
              refine pure_ (i := 6) (N := some 20) (v := ?_) (a' := ?_) #[true, true, true, true, true, true, true, false, false, false, false, false, false, false, false, false] rfl rfl (any_of HT_.out (by kernel_rfl)) (fun _ _ _ h => h) (Or.inl ⟨by rfl, ?_⟩) ?_ ?_
              rotate_left
              · intro w'
                go_simp
                with_reducible rfl
              rotate_left
              · simp only [Act.put, List.setIfInBounds_toArray, List.set_cons_zero, List.set_cons_succ, i64_w, i32_w]
                rfl
              refine pure_ (i := 8) (N := some 22) (v := ?_) (a' := ?_) #[true, true, true, true, true, true, true, false, true, false, false, false, false, false, false, false] rfl rfl (any_of HT_.out (by kernel_rfl)) (fun _ _ _ h => h) (Or.inl ⟨by rfl, ?_⟩) ?_ ?_
              rotate_left
              · intro w'
                go_simp
                with_reducible rfl
              rotate_left
              · simp only [Act.put, List.setIfInBounds_toArray, List.set_cons_zero, List.set_cons_succ, i64_w, i32_w]
                rfl
              refine pure_ (i := 9) (N := some 23) (v := ?_) (a' := ?_) #[true, true, true, true, true, true, true, false, true, true, false, false, false, false, false, false] rfl rfl (any_of HT_.out (by kernel_rfl)) (fun _ _ _ h => h) (Or.inl ⟨by rfl, ?_⟩) ?_ ?_
              rotate_left
              · intro w'
                go_simp
                with_reducible rfl
              rotate_left
              · simp only [Act.put, List.setIfInBounds_toArray, List.set_cons_zero, List.set_cons_succ, i64_w, i32_w]
                rfl
              refine pure_ (i := 10) (N := some 24) (v := ?_) (a' := ?_) #[true, true, true, true, true, true, true, false, true, true, true, false, false, false, false, false] rfl rfl (any_of HT_.out (by kernel_rfl)) (fun _ _ _ h => h) (Or.inl ⟨by rfl, ?_⟩) ?_ ?_
              rotate_left
              · intro w'
                go_simp
                with_reducible rfl
              rotate_left
              · simp only [Act.put, List.setIfInBounds_toArray, List.set_cons_zero, List.set_cons_succ, i64_w, i32_w]
                rfl
              refine take_ (i := 7) (N := some 21) (v := ?_) (a' := ?_) #[true, true, true, true, true, true, true, true, true, true, true, false, false, false, false, false] rfl rfl (take_ofW HT_.out HW_.out (by kernel_rfl)) (fun _ _ _ h => h) (Or.inl ⟨by rfl, ?_⟩) hHeld ?_ ?_
              rotate_left
              · rintro w' ⟨s0, s1, s2, s3⟩
                go_simp
                with_reducible rfl
              rotate_left
              · simp only [Act.put, List.setIfInBounds_toArray, List.set_cons_zero, List.set_cons_succ, i64_w, i32_w]
                rfl
              refine take_ (i := 11) (N := some 25) (v := ?_) (a' := ?_) #[true, true, true, true, true, true, true, true, true, true, true, true, false, false, false, false] rfl rfl (take_ofW HT_.out HW_.out (by kernel_rfl)) (fun _ _ _ h => h) (Or.inl ⟨by rfl, ?_⟩) hHeld ?_ ?_
              rotate_left
              · rintro w' ⟨s0, s1, s2, s3⟩
                go_simp
                with_reducible rfl
              rotate_left
              · simp only [Act.put, List.setIfInBounds_toArray, List.set_cons_zero, List.set_cons_succ, i64_w, i32_w]
                rfl
              refine pure_ (i := 12) (N := some 26) (v := ?_) (a' := ?_) #[true, true, true, true, true, true, true, true, true, true, true, true, true, false, false, false] rfl rfl (any_of HT_.out (by kernel_rfl)) (fun _ _ _ h => h) (Or.inl ⟨by rfl, ?_⟩) ?_ ?_
              rotate_left
              · intro w'
                go_simp
                with_reducible rfl
              rotate_left
              · simp only [Act.put, List.setIfInBounds_toArray, List.set_cons_zero, List.set_cons_succ, i64_w, i32_w]
                rfl
              refine last_ (i := 13) (N := none) #[true, true, true, true, true, true, true, true, true, true, true, true, true, true, false, false] rfl rfl (one_of HT_.out (by kernel_rfl)) (by decide) (fun K hK => ?_)
              refine skip_ (w1 := ?_) (by rfl) rfl ?_ ?_
              rotate_left
              · go_simp
                rfl
              refine hK.out _ _ ?_
              clear hK K
              refine pure_ (i := 14) (N := some 27) (v := ?_) (a' := ?_) #[true, true, true, true, true, true, true, true, true, true, true, true, true, true, true, false] rfl rfl (any_of HT_.out (by kernel_rfl)) (fun _ _ _ h => h) (Or.inl ⟨by rfl, ?_⟩) ?_ ?_
              rotate_left
              · intro w'
                go_simp
                with_reducible rfl
              rotate_left
              · simp only [Act.put, List.setIfInBounds_toArray, List.set_cons_zero, List.set_cons_succ, i64_w, i32_w]
                rfl
              refine last_ (i := 15) (N := none) #[true, true, true, true, true, true, true, true, true, true, true, true, true, true, true, true] rfl rfl (one_of HT_.out (by kernel_rfl)) (by decide) (fun K hK => ?_)
              refine skip_ (w1 := ?_) (by rfl) rfl ?_ ?_
              rotate_left
              · go_simp
                rfl
              refine hK.out _ _ ?_
              clear hK K
              refine done_ (done_of HT_.out (by kernel_rfl)) ?_
              try go_wp2
              (try simp only [← hl0_1])
              go_roundg k1
              case measure => have := HK1.out; omega
              case rel => exact ⟨(y104), (wrap64 (x2_1 + 1)), (wrap64 (x3_1 - 1)), (by first | rfl | (simp; done) | (simp [*]; done)), (by first | rfl | (simp; done) | (simp [*]; done)), H', ⟨by have := HK1.out; omega⟩, ⟨by (try simp only [hl0_1]); (with_reducible repeat (first | apply Kd.R_alloc | apply Kd.R_drewN | apply Kd.R_drew)); exact HQ12.out⟩, ⟨by repeat (first | (with_reducible first | exact HK.out | apply Kept.alloc | apply Kept.drewN | apply Kept.drew | refine Kept.setCell ?_ HMgo8.out _ | refine Kept.setCell ?_ HMgo8.out _ | refine Kept.setCell ?_ HMgo8.out _ | refine Kept.setCell ?_ HMgo8.out _) | exact HK.out)⟩, ⟨by repeat (first | (with_reducible first | exact HB.out | apply below_alloc | apply pw_below_drewN | apply below_drew1 | refine below_set ?_ GB8.out | refine below_set ?_ GB8.out | refine below_set ?_ GB8.out | refine below_set ?_ GB8.out) | exact HB.out)⟩⟩
            · rw [if_neg c7] at H
              exact absurd H (by simp)
          · rw [if_neg c6] at H
            exact absurd H (by simp)
        · rw [if_neg c5] at H
          exact absurd H (by simp)
      · rw [if_neg c4] at H
        exact absurd H (by simp)
    · rw [if_neg c3] at H
      have c3b0 : decide (x2_1 < x3_1) = false := decide_eq_false c3
      clear c3
      obtain rfl := Option.some.inj H
      go_wp2
      first | go_end0 | ((try simp only [Exit.inBlock, Exit.then]); refine bodyPost_ret (results_none rfl _ _ _) rfl ?_)
      exact ⟨by first | rfl | (simp [errW_none, errW_some] <;> rfl) | (simp [*, errW_none, errW_some] <;> rfl), (by first | exact (by (with_reducible repeat (first | apply Kd.R_alloc | apply Kd.R_drewN | apply Kd.R_drew)); exact HO_0.out) | (simp only [hl0_1]; exact (by (with_reducible repeat (first | apply Kd.R_alloc | apply Kd.R_drewN | apply Kd.R_drew)); exact HO_0.out))), by repeat (first | (with_reducible first | exact HB.out | apply below_alloc | apply pw_below_drewN | apply below_drew1) | exact HB.out), by repeat (first | (with_reducible first | exact HK.out | apply Kept.alloc | apply Kept.drewN | apply Kept.drew) | exact HK.out)⟩

end Go.Proofs.Ytjllbahhkeglfaa.P
namespace Go.Proofs.Ytjllbahhkeglfaa.P
open Go.RowKit Go.Proofs.YtjllbahhkeglfaaW.PrintWords Go.Proofs.YtjllbahhkeglfaaW.PrintLast Go.Proofs.YtjllbahhkeglfaaW.PrintMore
set_option linter.unusedVariables false
set_option linter.unusedSimpArgs false
/-- The way, from its end on. -/
def upP (fr : List Int) (ms : List S56) : Nat → Int → List S56 → List S56
 | 0, _, l => l
 | n + 1, i, l => if 0 ≤ rd fr i then upP fr ms n (rd fr i) (l ++ [rd_T56 ms i]) else l
theorem upP_reverse (fr : List Int) (ms : List S56) : ∀ (n : Nat) (i : Int) (l : List S56), (upP fr ms n i l).reverse = wayP fr ms n i l.reverse
 | 0, _, _ => rfl
 | n + 1, i, l => by
   rw [upP, wayP]
   split
   · rw [upP_reverse]; simp
   · rfl
theorem upP_length (fr : List Int) (ms : List S56) : ∀ (n : Nat) (i : Int) (l : List S56), (upP fr ms n i l).length ≤ l.length + n
 | 0, _, _ => by simp [upP]
 | n + 1, i, l => by
   rw [upP]
   split
   · have := upP_length fr ms n (rd fr i) (l ++ [rd_T56 ms i]); simp at this; omega
   · omega
theorem R_zero {α : Type} {d : Kd α} {e base : Nat} {W : World} {ok : Nat → Prop} (hb : base ≤ W.heap.size) (hok : ok W.heap.size) : Kd.R d e (W.alloc (.cells #[] e)) base ok (.slice (some ⟨W.heap.size, 0, none⟩) 0 0) [] := by
 refine ⟨fun k hk => ?_, [], ?_, Reps.none _ _⟩
 · have : W.heap.size = k := by simpa [Value.ownBlock] using hk
   rw [← this]; exact hok
 · have := World.ownsRow_lit (base := base) (e := e) (size := d.sz) W #[] 0 hb (by simp [maxLen]) (by simp)
   simpa using this
theorem rdT56_at (A B : List S56) (x : S56) (i : Int) (h : i = A.length) : rd_T56 (A ++ x :: B) i = x := by
 unfold rd_T56
 subst h
 simp [List.getD_eq_getElem?_getD, List.getElem?_append_right]
theorem set_at (A B : List S56) (x y : S56) (i : Nat) (h : i = A.length) : (A ++ x :: B).set i y = A ++ y :: B := by
 subst h
 rw [List.set_append_right _ _ (Nat.le_refl _)]
 simp
/-- Turning a row round from both ends: what lies between is turned, what lies outside stays. -/
theorem rev_l0 : ∀ (n : Nat) (M A B : List S56), M.length ≤ n → (A ++ M ++ B).length ≤ 4000 → Ev (fun k => impl_Move_144.l0 k (A ++ M ++ B) (A.length : Int) ((A.length : Int) + M.length - 1)) (A ++ M.reverse ++ B)
 | n, [], A, B, _, hL => by
   refine Ev.step (f := fun _ => some (A ++ [] ++ B)) (fun k => ?_) (Ev.now _)
   show impl_Move_144.l0 (k + 1) _ _ _ = _
   rw [impl_Move_144.l0, if_neg (by simp; omega)]
 | 0, x :: T, A, B, h, hL => by simp at h
 | n + 1, x :: T, A, B, h, hL => by
   rcases List.eq_nil_or_concat T with rfl | ⟨N, y, rfl⟩
   · refine Ev.step (f := fun _ => some (A ++ [x] ++ B)) (fun k => ?_) (Ev.now _)
     show impl_Move_144.l0 (k + 1) _ _ _ = _
     rw [impl_Move_144.l0, if_neg (by simp)]
   · have hlen : (A ++ x :: (N.concat y) ++ B).length = A.length + N.length + 2 + B.length := by simp; omega
     have e1 : A ++ x :: (N.concat y) ++ B = A ++ x :: (N ++ y :: B) := by simp
     have e2 : A ++ x :: (N.concat y) ++ B = (A ++ x :: N) ++ y :: B := by simp
     have ih := rev_l0 n N (A ++ [y]) (x :: B) (by simp at h; omega) (by simp at hlen hL ⊢; omega)
     have hl : ((A.length : Int) + (x :: N.concat y).length - 1) = (A.length : Int) + N.length + 1 := by simp; omega
     rw [hl]
     have hr : A ++ (x :: N.concat y).reverse ++ B = (A ++ [y]) ++ N.reverse ++ (x :: B) := by simp
     rw [hr]
     refine Ev.step (fun k => ?_) ih
     show impl_Move_144.l0 (k + 1) _ _ _ = _
     rw [impl_Move_144.l0, if_pos (by omega), if_pos (by omega), if_pos (by rw [hlen]; omega), if_pos (by omega), if_pos (by rw [hlen]; omega)]
     have r1 : rd_T56 (A ++ x :: (N.concat y) ++ B) ((A.length : Int) + N.length + 1) = y := by rw [e2]; exact rdT56_at _ _ _ _ (by simp; omega)
     have r2 : rd_T56 (A ++ x :: (N.concat y) ++ B) (A.length : Int) = x := by rw [e1]; exact rdT56_at _ _ _ _ rfl
     rw [r1, r2, w64 (by omega) (by omega), w64 (by omega) (by omega)]
     have s1 : ((A ++ x :: (N.concat y) ++ B).set (A.length : Int).toNat ⟨y.f0, y.f1⟩).set ((A.length : Int) + N.length + 1).toNat ⟨x.f0, x.f1⟩ = (A ++ [y]) ++ N ++ (x :: B) := by
      rw [e1, set_at _ _ _ _ _ (by omega), show A ++ (⟨y.f0, y.f1⟩ : S56) :: (N ++ y :: B) = (A ++ y :: N) ++ y :: B by simp, set_at _ _ _ _ _ (by simp; omega)]
      simp
     rw [s1]
     congr 1
     · simp
     · simp; omega
theorem impl_reverse_ev (l : List S56) (hl : l.length ≤ 4000) : Ev (fun k => impl_Move_144.f k l) l.reverse := by
 have h := rev_l0 l.length l [] [] (Nat.le_refl _) (by simpa using hl)
 refine Ev.congr (fun k => ?_) (by simpa using h)
 unfold impl_Move_144.f
 rw [w64 (by omega) (by omega)]
set_option maxHeartbeats 2000000 in
set_option maxRecDepth 100000 in
theorem impl_planTo.calls (va vx vd : Value) (ha : va.oneCell' = true) (hx : vx.oneCell' = true) (hd : vd.oneCell' = true) (Af Am : Option Addr) (cf cm : Nat) (fr : List Int) (ms : List S56) (i : Int) (w : World)
 (hf : Kd.C (Kd.int .i64) w Af fr.length fr) (hm : Kd.C k56 w Am ms.length ms)
 (hl : ms.length = fr.length) (hn : fr.length ≤ 4000) (hi0 : 0 ≤ i) (hi1 : i < fr.length) (hfr : ∀ j : Int, 0 ≤ j → j < fr.length → rd fr j < j) :
 Calls Try.prog 96 #[.agg #[va, vx, vd, .slice Af fr.length cf, .slice Am ms.length cm], .int .i64 i] w fun e w' => ∃ v0 : Value, e = .returned v0 ∧ Kd.R k56 56 w' w.heap.size (fun _ => True) v0 (wayP fr ms fr.length i []) ∧ Below w.heap.size w w' := by
 rw [hl]
 have hb := blk_new w (.cells #[va, vx, vd, .slice Af fr.length cf, .slice Am fr.length cm] 97)
 have b1 := below_alloc (Below.refl w.heap.size w) (.cells #[va, vx, vd, .slice Af fr.length cf, .slice Am fr.length cm] 97)
 have HF := Aside0.mk (Kd.C_below hf b1)
 have HM := Aside0.mk (Kd.C_below hm b1)
 have HFR := Lib.hid hfr
 have hsz : (w.alloc (.cells #[va, vx, vd, .slice Af fr.length cf, .slice Am fr.length cm] 97)).heap.size = w.heap.size + 1 := by simp
 generalize hW0 : w.alloc (.cells #[va, vx, vd, .slice Af fr.length cf, .slice Am fr.length cm] 97) = W0 at hb b1 HF HM hsz
 have HZ := Aside0.mk hW0
 have hRZ := R_zero (d := k56) (e := 56) (base := W0.heap.size) (W := W0) (ok := fun _ => True) (Nat.le_refl _) trivial
 have HRZ := Aside0.mk hRZ
 have HB1 := Aside0.mk b1
 have HB0 := Aside0.mk (below_alloc (Below.refl W0.heap.size W0) (.cells #[] 56))
 have HBK := Aside0.mk hb
 have HSZ := Aside0.mk hsz
 clear hf hm hfr hb hRZ b1 hW0 hsz
 have hu97 := Try.underlying97
 have hu56 := Try.underlying56
 obtain ⟨RES, hR⟩ : ∃ RES, upP fr ms fr.length i [] = RES := ⟨_, rfl⟩
 have hRL : RES.length ≤ 4000 := by have := upP_length fr ms fr.length i []; rw [hR] at this; simp at this; omega
 have hRR : wayP fr ms fr.length i [] = RES.reverse := by rw [← hR, upP_reverse]; rfl
 rw [hRR]
 have HR := Aside0.mk hR
 clear hR hRR
 go_enter Try.func96, Try.ntmps96
 go_upto_region 2 with fail
 rw [HZ.out, show w.heap.size + 1 = W0.heap.size from HSZ.out.symm]
 go_loopg [1, 5] fr.length (fun gg s1 s5 wr => ∃ (j : Int) (way : List S56) (A : Option Addr) (c : Nat), s1 = .int .i64 j ∧ s5 = .slice A way.length c ∧ 0 ≤ j ∧ j < fr.length ∧ j < gg ∧ way.length + gg ≤ fr.length ∧ Aside0 (upP fr ms gg j way = RES) ∧ Aside0 (Kd.R k56 56 wr W0.heap.size (fun _ => True) (.slice A way.length c) way) ∧ Aside0 (Below W0.heap.size W0 wr))
 case atStart => exact ⟨i, [], some ⟨W0.heap.size, 0, none⟩, 0, rfl, rfl, hi0, hi1, hi1, by simp, HR, HRZ, HB0⟩
 case round =>
  obtain ⟨j, way, A, c, rfl, rfl, hj0, hj1, hjg, hwl, HQ, HW, HB⟩ := hrel
  have hblk := blk_below HBK.out HB.out
  have hc3 := blk_cell hblk 3
  have hc4 := blk_cell hblk 4
  simp at hc3 hc4
  obtain ⟨aF, eF, hF0⟩ := Kd.at_int (Kd.C_below HF.out HB.out) j hj0 hj1
  subst eF
  obtain ⟨aM, eM, hM0, hM1⟩ := at_T56 (Kd.C_below HM.out HB.out) j hj0 (by omega)
  subst eM
  clear hblk
  have hjm : j < ms.length := by omega
  have hfj := HFR j hj0 hj1
  obtain ⟨n1, rfl⟩ : ∃ n1, gk = n1 + 1 := ⟨gk - 1, by omega⟩
  have hq := HQ.out
  rw [upP] at hq
  generalize hmm : rd_T56 ms j = m at hM0 hM1 hq
  clear hmm
  generalize hff : rd fr j = f at hF0 hq hfj
  have HFF := Aside0.mk hff
  clear hff
  by_cases hpos : 0 ≤ f
  · rw [if_pos hpos] at hq
    have HQ1 := Aside0.mk hq
    clear hq HQ
    have HWL := Aside0.mk (show (way.length + 1) * 16 ≤ 140737488355328 by omega)
    go_wp2_with (first | ((with_reducible refine gate_builtin (b := .append) (xs := #[.tmp 18, .tmp 24]) rfl ?_); at_builtin; refine R_app k56 (w0 := W0) (w4 := wr) W0.heap.size rfl (.tmp 18) (.tmp 24) 22 56 (.agg #[.int .i64 0, .int .i64 0]) 16 rfl Try.underlying22 info56 rfl (by decide) (by omega) (.slice A way.length c) way m [.int .i64 m.f0, .int .i64 m.f1] (fun _ => True) wr.heap.size rfl rfl HW.out (fun _ _ => trivial) (fun _ _ => k56_mkM _ _ _ m) HB.out HB.out.size HWL.out (below_alloc (Below.refl _ _) _) (blk_new _ _) ?_; intro v1 w5 ho hb hg; obtain ⟨A7, c7, rfl⟩ := Kd.R_slice ho; have hy3 := blk_cell (blk_below HBK.out hb) 3; simp at hy3; have hF1 := Kd.at_int (Kd.C_below HF.out hb) j hj0 hj1; obtain ⟨aF2, eF2, hF2⟩ := hF1; injection eF2 with eF2; subst eF2; rw [HFF.out] at hF2; have HO5 := Aside0.mk ho; have HB5 := Aside0.mk hb; clear ho hb hg))
    have hf1 : f < fr.length := by omega
    have hf2 : f < n1 := by omega
    have hf3 : (way ++ [m]).length + n1 ≤ fr.length := by simp; omega
    go_roundg n1
    case measure => omega
    case rel => exact ⟨f, way ++ [m], A7, c7, rfl, by simp, hpos, hf1, hf2, hf3, HQ1, ⟨HO5.out⟩, ⟨HB5.out⟩⟩
  · rw [if_neg hpos] at hq
    subst hq
    have HC144 : Hid (Calls Try.prog 144 #[.slice A way.length c] wr fun e w' => e = .returned (.tuple #[]) ∧ Kd.R k56 56 w' w.heap.size (fun _ => True) (.slice A way.length c) way.reverse ∧ Below w.heap.size w w') := by
     obtain ⟨k, hk⟩ := (impl_reverse_ev way (by omega)).rounds
     refine (impl_Move_144.calls k (fun _ => True) (.slice A way.length c) way _ W0 wr HB.out HW.out hk).mono ?_
     rintro e w' ⟨rfl, h1, h2, h3⟩
     exact ⟨rfl, Kd.R_lower (Kd.R_mono h1 (fun _ _ => trivial)) HB1.out.size, HB1.out.trans (h2.mono HB1.out.size)⟩
    go_wp2_with (go_at_call 144; (refine HC144.out.mono ?_; rintro e w6 ⟨rfl, h1, h2⟩; have H1 := Aside0.mk h1; have H2 := Aside0.mk h2; clear h1 h2))
    refine bodyPost_ret (v := .slice A way.length c) (by simp [results, Try.results96, go_sem]) rfl ?_
    exact ⟨_, rfl, H1.out, H2.out⟩
end Go.Proofs.Ytjllbahhkeglfaa.P
namespace Go.Proofs.Ytjllbahhkeglfaa.P
open Go.RowKit Go.Proofs.YtjllbahhkeglfaaW.PrintWords Go.Proofs.YtjllbahhkeglfaaW.PrintLast Go.Proofs.YtjllbahhkeglfaaW.PrintMore
set_option linter.unusedVariables false
set_option linter.unusedSimpArgs false
set_option maxHeartbeats 800000 in
set_option maxRecDepth 100000 in
theorem indexFunc_vs (g : Nat) (lb : Array Value) (p : S33 → Bool) (eg : ∀ args w, (callFunc g args).run Try.prog w = .ok (.enter g args) w) (A0 : Option Addr) (c0 : Nat) (l0 : List S33) (w : World)
 (hr0 : Kd.C k33 w A0 l0.length l0) (hbig : l0.length ≤ 9223372036854775807)
 (hp : ∀ W x B0 d0 B1 d1, x ∈ l0 → Below w.heap.size w W → x.f0.length ≤ d0 → Kd.C (Kd.int .i64) W B0 x.f0.length x.f0 → x.f1.length ≤ d1 → Kd.C (Kd.int .i64) W B1 x.f1.length x.f1 → Calls Try.prog g (#[.agg #[.slice B0 x.f0.length d0, .slice B1 x.f1.length d1]] ++ lb) W fun e w' => e = .returned (.bool (p x)) ∧ Below w.heap.size w w') :
 Calls Try.prog 93 #[.slice A0 l0.length c0, .func (.func g) #[] lb] w fun e w' => e = .returned (.int .i64 (idx p l0 0)) ∧ Below w.heap.size w w' := by
 have HR0 := Aside0.mk hr0
 have HP := Lib.hid hp
 clear hp hr0
 generalize hN : l0.length = N at hbig
 have HN := Aside0.mk hN
 clear hN
 have hu33 := Try.underlying33
 go_enter Try.func93, Try.ntmps93
 go_wp2
 go_loopg [5, 8] N (fun gg _ s8 wr => ∃ kk : Nat, kk ≤ N ∧ N - kk ≤ gg ∧ s8 = .int .i64 kk ∧ Aside0 (Below w.heap.size w wr) ∧ Aside0 (∀ j, j < kk → p (l0.getD j z33) = false))
 case atStart => exact ⟨0, Nat.zero_le _, by omega, rfl, ⟨Below.refl _ w⟩, ⟨fun j hj => absurd hj (Nat.not_lt_zero _)⟩⟩
 case round =>
  obtain ⟨kk, hkk, hg, rfl, BW, A⟩ := hrel
  by_cases hlt : kk < N
  · have hltz : (kk : Int) < (N : Int) := by omega
    obtain ⟨aa, B0, d0, B1, d1, ea, hy0, hy1, hd0, hz0, hd1, hz1⟩ := at_T33 (Kd.C_below HR0.out BW.out) (kk : Int) (by omega) (by rw [HN.out]; omega)
    subst ea
    rw [Int.toNat_natCast] at hy0 hy1
    have hmem : rd_T33 l0 (kk : Int) ∈ l0 := by
     unfold rd_T33
     rw [List.getD_eq_getElem?_getD, List.getElem?_eq_getElem (by rw [HN.out]; omega)]
     exact List.getElem_mem _
    have hcall := HP.out wr _ B0 d0 B1 d1 hmem BW.out hd0 hz0 hd1 hz1
    clear hmem hd0 hz0 hd1 hz1
    have hy : l0.getD kk z33 = rd_T33 l0 (kk : Int) := by unfold rd_T33; simp
    generalize rd_T33 l0 (kk : Int) = y at hy0 hy1 hcall hy
    have B := Aside0.mk hy
    clear hy
    generalize y.f0.length = q0 at hy0 hcall
    generalize y.f1.length = q1 at hy1 hcall
    cases hq : p y with
    | true =>
      rw [hq] at hcall
      go_wp2_with (go_at_fn g; refine hcall.mono ?_; rintro e w' ⟨rfl, hb'⟩)
      go_ret
      exact ⟨by rw [idx_hit p z33 l0 kk 0 (by rw [HN.out]; omega) A.out (by rw [B.out]; exact hq)]; simp, hb'⟩
    | false =>
      rw [hq] at hcall
      go_wp2_with (go_at_fn g; refine hcall.mono ?_; rintro e w' ⟨rfl, hb'⟩)
      go_roundg (N - (kk + 1))
      case measure => omega
      case rel =>
       refine ⟨kk + 1, by omega, by omega, by go_num, ⟨hb'⟩, ⟨fun j hj => ?_⟩⟩
       by_cases e : j = kk
       · subst e
         rw [B.out]; exact hq
       · exact A.out j (by omega)
  · have hltz : ¬ (kk : Int) < (N : Int) := by omega
    have : kk = N := by omega
    subst this
    go_wp2
    go_ret
    exact ⟨by rw [idx_miss p z33 l0 0 (fun k hk => A.out k (by rw [← HN.out]; exact hk))]; try rfl, BW.out⟩
set_option maxHeartbeats 800000 in
set_option maxRecDepth 100000 in
theorem measures_one (B2 : Nat) (a : Int) (x : S33) (A0 A1 : Option Addr) (c0 c1 : Nat) (w : World) (hx : x.f1.length ≤ 9223372036854775806) (h0 : x.f0.length ≤ c0) (hC0 : Kd.C (Kd.int .i64) w A0 x.f0.length x.f0) (h1 : x.f1.length ≤ c1) (hC1 : Kd.C (Kd.int .i64) w A1 x.f1.length x.f1) (h2 : w.cell? ⟨B2, 0, none⟩ = some (.int .i64 a)) :
 Calls Try.prog 94 #[.agg #[.slice A0 x.f0.length c0, .slice A1 x.f1.length c1], .pointer (some ⟨B2, 0, none⟩)] w fun e w' => e = .returned (.bool (decide (a ∈ x.f1))) ∧ Below w.heap.size w w' := by
 obtain ⟨k, hk⟩ := (impl_measures_ev x.f0 x.f1 a hx).rounds
 have HC : Hid (∀ W, Below w.heap.size w W → Calls Try.prog 95 #[.agg #[.slice A0 x.f0.length c0, .slice A1 x.f1.length c1], .int .i64 a] W fun e w' => e = .returned (.bool (decide (a ∈ x.f1))) ∧ Below W.heap.size W w') := by
  intro W hW
  exact impl_measures.calls k A0 c0 x.f0 A1 c1 x.f1 a _ W (Kd.C_below hC0 hW) h0 (Kd.C_below hC1 hW) h1 hk
 clear hk hC0 hC1
 have h3 := pw_cell_below (below_alloc (Below.refl w.heap.size w) (.cells #[.slice A0 x.f0.length c0, .slice A1 x.f1.length c1] 33)) h2
 have hu33 := Try.underlying33
 go_enter Try.func94, Try.ntmps94
 go_wp2_with (go_at_call 95; refine (HC.out _ (below_alloc (Below.refl _ _) _)).mono ?_; rintro e w' ⟨rfl, hb'⟩)
 go_ret
 exact ⟨rfl, below_then (below_alloc (Below.refl _ _) _) (by simp) hb'⟩
end Go.Proofs.Ytjllbahhkeglfaa.P
namespace Go.Proofs.Ytjllbahhkeglfaa.P
open Go.RowKit Go.Proofs.YtjllbahhkeglfaaW.PrintWords Go.Proofs.YtjllbahhkeglfaaW.PrintLast Go.Proofs.YtjllbahhkeglfaaW.PrintMore
set_option linter.unusedVariables false
set_option linter.unusedSimpArgs false
/-- What plAll leaves: the search, or nothing that is told. -/
def AllEnd (w : World) (RES : Option Srch) (e : Ending) (w' : World) : Prop :=
 ∃ g : Nat, Below w.heap.size w w' ∧ match RES with
  | some r => e = .returned (.tuple #[.pointer (some ⟨g, 0, none⟩), .bool true]) ∧ ∃ c va vf vm vd vo vl ls, Mem w w' g c va vf vm vd vo vl r.all r.fr r.ms r.far r.ord ls
  | none => e = .returned (.tuple #[.pointer (some ⟨g, 0, none⟩), .bool false])
/-- The search's memory at a round. -/
def Held (w wr : World) (g : Nat) (r : Srch) : Prop := ∃ c va vf vm vd vo vl ls, Mem w wr g c va vf vm vd vo vl r.all r.fr r.ms r.far r.ord ls
theorem mem_rdM {l : List S56} {i : Int} (h0 : 0 ≤ i) (h1 : i < l.length) : rd_T56 l i ∈ l := by
 unfold rd_T56
 rw [List.getD_eq_getElem?_getD, List.getElem?_eq_getElem (by omega : i.toNat < l.length)]
 exact List.getElem_mem _
def HeldL (w wr : World) (g : Nat) (r : Srch) (vl : Value) (ls : List S56) : Prop := ∃ c va vf vm vd vo, Mem w wr g c va vf vm vd vo vl r.all r.fr r.ms r.far r.ord ls
set_option maxHeartbeats 4000000 in
set_option maxRecDepth 100000 in
theorem spec_plAll.calls (cl : Bool) (A0 A1 : Option Addr) (c0 c1 : Nat) (l0 l1 : List Int) (w : World) (hr0 : Kd.C (Kd.int .i64) w A0 l0.length l0) (hc0 : l0.length ≤ c0) (hr1 : Kd.C (Kd.int .i64) w A1 l1.length l1) (hc1 : l1.length ≤ c1) (G : Good l0 l1) :
 Calls Try.prog 134 #[.agg #[.slice A0 l0.length c0, .slice A1 l1.length c1], .bool cl] w (AllEnd w (sBfs l0 cl 3001 0 (sStart l0 l1))) := by
 have HS := Aside0.mk (start_mem w A0 A1 c0 c1 l0 l1 hr0 hc0 hr1 hc1)
 have HI := Aside0.mk (SInv.start G)
 generalize hR : sBfs l0 cl 3001 0 (sStart l0 l1) = RES
 have HR := Aside0.mk hR
 clear hR hr0 hc0 hr1 hc1
 have hu92 := Try.underlying92
 have hu33 := Try.underlying33
 have hu56 := Try.underlying56
 unfold startW at HS
 obtain ⟨g, hg⟩ : ∃ g, w.heap.size + 1 + 1 + 1 + 1 + 1 + 1 = g := ⟨_, rfl⟩
 rw [show w.heap.size + 6 = g from hg] at HS
 go_enter Try.func134, Try.ntmps134
 go_wp2
 go_loopg [7] 3001 (fun gg s7 wr => ∃ (i : Nat) (r : Srch), s7 = .int .i64 i ∧ i ≤ 3000 ∧ 3001 - i ≤ gg ∧ Aside0 (sBfs l0 cl gg i r = RES) ∧ Aside0 (SInv l0 r) ∧ Aside0 (Held w wr g r))
 case atStart => exact ⟨0, sStart l0 l1, rfl, by omega, by omega, HR, HI, Aside0.mk ⟨col0 w.heap.size, _, _, _, _, _, _, _, HS.out⟩⟩
 case round =>
  clear HS HR HI hg
  obtain ⟨i, r, rfl, hi, hgg, HQ, HI, HH⟩ := hrel
  obtain ⟨c, va, vf, vm, vd, vo, vl, ls, M⟩ := HH.out
  clear HH
  have hb0 := blk_cell M.blk 0
  simp at hb0
  obtain ⟨Aa, ca, rfl⟩ := Kd.N_slice M.na
  have n2 := HI.out.n2
  by_cases hlt : i < r.all.length
  · have hltz : (i : Int) < (r.all.length : Int) := by omega
    obtain ⟨aa, B0, d0, B1, d1, ea, hy0, hy1, hd0, hz0, hd1, hz1⟩ := at_T33 (Kd.N_reads' M.na).2.2 (i : Int) (by omega) (by omega)
    subst ea
    rw [Int.toNat_natCast] at hy0 hy1
    obtain ⟨ef0, Gi⟩ := HI.out.at_ (i := (i : Int)) (by omega) (by omega)
    have HGi := Aside0.mk Gi
    obtain ⟨k, hk⟩ := (spec_on_ev Gi cl).rounds
    obtain ⟨n1, rfl⟩ : ∃ n1, gk = n1 + 1 := ⟨gk - 1, by omega⟩
    have hq := HQ.out
    rw [sBfs, if_pos hlt] at hq
    have HQ1 := Aside0.mk hq
    have HC99 : Hid (∀ W, Below wr.heap.size wr W → Calls Try.prog 99 #[.agg #[.slice B0 (rd_T33 r.all i).f0.length d0, .slice B1 (rd_T33 r.all i).f1.length d1], .bool cl] W fun e w' => ∃ v0_ : Value, e = .returned v0_ ∧ Kd.R k56 56 w' W.heap.size (fun _ => True) v0_ (movesP l0 (rd_T33 r.all i).f1 cl) ∧ Below W.heap.size W w') := by
     intro W hW
     exact spec_veOn.calls k B0 d0 _ B1 d1 _ cl _ W (Kd.C_below hz0 hW) hd0 (Kd.C_below hz1 hW) hd1 (by rw [ef0]; exact hk)
    have HM := Aside0.mk (M.upd 7)
    clear hq HQ hk hd0 hz0 hd1 hz1 M
    generalize hL : movesP l0 (rd_T33 r.all i).f1 cl = L at HQ1 HC99
    have HL := Aside0.mk hL
    have hLb : L.length ≤ 60 := by
     have h := movesP_length HGi.out cl


     rw [hL] at h
     omega
    clear hL
    generalize (rd_T33 r.all i).f0.length = q0 at hy0 HC99
    generalize (rd_T33 r.all i).f1.length = q1 at hy1 HC99
    go_wp2_with (go_at_call 99; refine (HC99.out _ (Below.refl _ _)).mono ?_; rintro e w1 ⟨vL, rfl, hRL, hb1⟩; obtain ⟨AL, cL, rfl⟩ := Kd.R_slice hRL)
    have HRL := Aside0.mk hRL
    have HB1 := Aside0.mk hb1
    clear hb0 hy0 hy1 hRL hb1
    go_loopg [41] L.length (fun gg s41 wi => ∃ (j : Nat) (r2 : Srch), s41 = .int .i64 j ∧ j ≤ L.length ∧ L.length - j ≤ gg ∧ i < r2.all.length ∧ Aside0 (rd_T33 r2.all i = rd_T33 r.all i) ∧ Aside0 ((sVis l0 i (L.drop j) r2).bind (sBfs l0 cl n1 (i + 1)) = RES) ∧ Aside0 (SInv l0 r2) ∧ Aside0 (HeldL w wi g r2 (.slice AL L.length cL) L))
    case atStart =>
     have HH := (HM.out.below HB1.out).list (Kd.R_mono (Kd.R_lower (Kd.R_bound HRL.out) HM.out.bel.size) (fun k hk => upd_ge hk.2.1))
     exact ⟨0, r, rfl, by omega, by omega, hlt, ⟨rfl⟩, HQ1, HI, ⟨_, _, _, _, _, _, HH⟩⟩
    case round =>
     clear HM HB1 HRL HQ1 HI HC99
     obtain ⟨j, r2, rfl, hj, hgg2, hir, HX, HQ2, HI2, HH2⟩ := hrel
     obtain ⟨c, va, vf, vm, vd, vo, M⟩ := HH2.out
     clear HH2
     by_cases hjl : j < L.length
     · have hjz : (j : Int) < (L.length : Int) := by omega
       obtain ⟨am, em, hm0, hm1⟩ := at_T56 (Kd.R_reads' M.nl).2.2 (j : Int) (by omega) (by omega)
       subst em
       rw [Int.toNat_natCast] at hm0 hm1
       generalize hmm : rd_T56 L (j : Int) = m at hm0 hm1
       have HMV := Aside0.mk hmm
       clear hmm
       have hb0 := blk_cell M.blk 0
       simp at hb0
       obtain ⟨Ab, cb, rfl⟩ := Kd.N_slice M.na
       obtain ⟨ab, B2, d2, B3, d3, eb, hz0, hz1, he0, hf0, he1, hf1⟩ := at_T33 (Kd.N_reads' M.na).2.2 (i : Int) (by omega) (by omega)
       subst eb
       rw [Int.toNat_natCast] at hz0 hz1
       rw [HX.out] at hz0 hz1 hf0 hf1 he0 he1
       have c9 : upd c wr.heap.size 8 wr.heap.size = 8 := upd_ge (Nat.le_refl _)
       have HM := Aside0.mk ((M.upd 8).below (below_alloc (Below.refl _ _) (.cells #[.int .i64 m.f0, .int .i64 m.f1] 56)))
       have C9 := Aside0.mk c9
       clear c9
       have hmem : m ∈ L := by
        have h := mem_rdM (l := L) (i := (j : Int)) (by omega) (by omega)
        rwa [HMV.out] at h
       have hmv := (movesP_mem (HL.out ▸ hmem)).1
       have HMVV := Aside0.mk hmv
       have hi0 : (0 : Int) ≤ (i : Int) := by omega
       have hi1 : (i : Int) < (r2.all.length : Int) := by omega
       go_upto_region 8 with fail
       have b9 : Below wr.heap.size wr (wr.alloc (.cells #[.int .i64 m.f0, .int .i64 m.f1] 56)) := below_alloc (Below.refl _ _) _
       have k9 := blk_new wr (.cells #[.int .i64 m.f0, .int .i64 m.f1] 56)
       generalize wr.alloc (.cells #[.int .i64 m.f0, .int .i64 m.f1] 56) = W9 at HM b9 k9 ⊢
       replace hb0 := pw_cell_below b9 hb0
       replace hz0 := pw_cell_below b9 hz0
       replace hz1 := pw_cell_below b9 hz1
       replace hf0 := Kd.C_below hf0 b9
       replace hf1 := Kd.C_below hf1 b9
       clear b9
       generalize wr.heap.size = n9 at HM k9 C9 ⊢
       have hn0 := blk_cell k9 0
       have hn1 := blk_cell k9 1
       simp at hn0 hn1
       have K9 := Aside0.mk k9
       have HC101 : Hid (∀ W, Below W9.heap.size W9 W → Calls Try.prog 101 #[.agg #[.slice B2 (rd_T33 r.all i).f0.length d2, .slice B3 (rd_T33 r.all i).f1.length d3], .agg #[.int .i64 m.f0, .int .i64 m.f1]] W fun e w' => ∃ v0_ v1_ : Value, e = .returned (.agg #[v0_, v1_]) ∧ Kd.R (Kd.int .i64) 3 w' W9.heap.size (fun k_ => some k_ ≠ (v1_ : Value).ownBlock) v0_ l0 ∧ Kd.R (Kd.int .i64) 3 w' W9.heap.size (fun k_ => some k_ ≠ (v0_ : Value).ownBlock) v1_ (nxt l0 (rd_T33 r.all i) m) ∧ Below W.heap.size W w' ∧ Below W9.heap.size W9 w') := by
        intro W hW
        refine (spec_veMake.calls B2 d2 _ B3 d3 _ _ _ l0 _ W (Kd.C_below hf0 hW) he0 (Kd.C_below hf1 hW) he1 (by rw [ef0]; exact spec_make_eq HGi.out hmv)).mono ?_
        rintro e w' ⟨v0, v1, rfl, h0, h1, h2⟩
        exact ⟨v0, v1, rfl, Kd.R_lower h0 hW.size, Kd.R_lower h1 hW.size, h2, below_step hW h2⟩
       clear M he0 he1
       generalize hnx : nxt l0 (rd_T33 r.all i) m = nx at HC101
       have HNX := Aside0.mk hnx
       clear hnx
       generalize (rd_T33 r.all i).f0.length = q2 at hz0 HC101
       generalize (rd_T33 r.all i).f1.length = q3 at hz1 HC101
       have ng : g ≠ W9.heap.size := Nat.ne_of_lt (World.block_lt_of_cell? W9 _ hb0)
       have na : (ab.add (i * 2)).block ≠ W9.heap.size := Nat.ne_of_lt (World.block_lt_of_cell? W9 _ hz0)
       have nn9 : n9 ≠ W9.heap.size := Nat.ne_of_lt (World.block_lt_of_cell? W9 _ hn0)
       clear k9 hmv hmem hf0 hf1
       go_cut [10] (fun s10 wx => ∃ (b10 : Nat) (A4 : Option Addr) (c4 : Nat) (A5 : Option Addr) (c5 : Nat), s10 = .pointer (some ⟨b10, 0, none⟩) ∧ Aside0 (Mid w wx g n9 b10 r2.all r2.fr r2.ms r2.far r2.ord (.slice (some am) L.length cL) L m l0 nx A4 c4 A5 c5))
       case first =>
        go_region_held3 (fun w' => w'.cell? ⟨g, 0, none⟩ = some (.slice (some ab) r2.all.length cb) ∧ w'.cell? (ab.add (i * 2)) = some (.slice B2 q2 d2) ∧ w'.cell? ⟨(ab.add (i * 2)).block, (ab.add (i * 2)).off + 1, none⟩ = some (.slice B3 q3 d3) ∧ w'.cell? ⟨n9, 0, none⟩ = some (.int .i64 m.f0) ∧ w'.cell? ⟨n9, 1, none⟩ = some (.int .i64 m.f1))
         (first | exact ⟨hb0, hz0, hz1, hn0, hn1⟩ | exact ⟨pw_cell_below HB9.out hb0, pw_cell_below HB9.out hz0, pw_cell_below HB9.out hz1, pw_cell_below HB9.out hn0, pw_cell_below HB9.out hn1⟩ | exact ⟨cell_far (cell_far hm0_ ng) ng, cell_far (cell_far hm1_ na) na, cell_far (cell_far hm2_ na) na, cell_far (cell_far hm3_ nn9) nn9, cell_far (cell_far hm4_ nn9) nn9⟩ | go_keep)
         (first | (go_at_call 101; refine (HC101.out _ ?hbb).mono ?_; (case hbb => repeat (first | exact Below.refl _ _ | apply below_drew | apply below_alloc)); rintro e w2 ⟨v0, v1, rfl, hv0, hv1, hb2, hb3⟩; obtain ⟨A4, c4, rfl⟩ := Kd.R_slice hv0; obtain ⟨A5, c5, rfl⟩ := Kd.R_slice hv1; have hq0 := pw_cell_below (a := ⟨W9.heap.size, 0, none⟩) (v := .slice none 0 0) hb2; have hq1 := pw_cell_below (a := ⟨W9.heap.size, 1, none⟩) (v := .slice none 0 0) hb2; have hq2 := hb2.frozen (p := ⟨W9.heap.size, 0, none⟩); have hq3 := hb2.frozen (p := ⟨W9.heap.size, 1, none⟩); have HQB := fun h => blk_below (g := W9.heap.size) (o := .cells #[.slice none 0 0, .slice none 0 0] 33 (0, 0)) h hb2; have HV0 := Aside0.mk hv0; have HV1 := Aside0.mk hv1; have HB2 := Aside0.mk hb2; have HB9 := Aside0.mk hb3; have hm0_ := pw_cell_below hb3 hb0; have hm1_ := pw_cell_below hb3 hz0; have hm2_ := pw_cell_below hb3 hz1; have hm3_ := pw_cell_below hb3 hn0; have hm4_ := pw_cell_below hb3 hn1; clear hv0 hv1 hb2 hb3))
        all_goals (go_wp2_with fail; go_meet)
        all_goals first
         | (have hbw := below_step HM.out.bel HB9.out
            exact ⟨w2.heap.size, A4, c4, A5, c5, rfl, ⟨mid_of HM.out C9.out K9.out HB9.out HV0.out HV1.out HB9.out.size (fun k hlt _ => Below.heap_alloc w2 _ k hlt) (blk_new w2 _) (fun k hk => Nat.ne_of_lt (Kd.R_lt HV0.out k hk)) (fun k hk => Nat.ne_of_lt (Kd.R_lt HV1.out k hk)) (hbw.alloc hbw.size _)⟩⟩)
         | (have hz := HQB (blk_drew (blk_new W9 _))
            have hbw := below_step HM.out.bel HB9.out
            exact ⟨W9.heap.size, A4, c4, A5, c5, rfl, ⟨mid_of HM.out C9.out K9.out HB9.out HV0.out HV1.out (Nat.le_refl _) (fun k _ hne => (Below.heap_setCell _ _ _ k hne).trans (Below.heap_setCell _ _ _ k hne)) (by simpa using blk_set (blk_set hz 0 (.slice A4 l0.length c4)) 1 (.slice A5 nx.length c5)) (own_ne_of HV0.out hz (by decide)) (own_ne_of HV1.out hz (by decide)) ((hbw.setCell HM.out.bel.size _).setCell HM.out.bel.size _)⟩⟩)
       case rest =>
        obtain ⟨b10, A4, c4, A5, c5, rfl, HMID⟩ := hcut
        clear hb0 hz0 hz1 hn0 hn1 ng na nn9 HM K9 C9 HC101
        obtain ⟨k9, k10, hs4, hC4, hs5, hC5⟩ := HMID.out.vars
        obtain ⟨Aa, Ao, ca, co, vf, vm, vd, SS⟩ := HMID.out.seen
        have hG2 : Good l0 nx := by rw [← HNX.out]; exact beh_good HGi.out HMVV.out
        have HG2 := Aside0.mk hG2
        have hp0 := blk_cell k10 0
        have hp1 := blk_cell k10 1
        simp at hp0 hp1
        have HC102 : Hid (Calls Try.prog 102 #[.pointer (some ⟨g, 0, none⟩), .agg #[.slice A4 l0.length c4, .slice A5 nx.length c5]] wc fun e w' => e = .returned (.tuple #[.int .i64 (plLow r2.all r2.ord nx), .bool (plFound r2.all r2.ord nx)]) ∧ Below wc.heap.size wc w') :=
         spec_plPlace.calls g vf vm vd Aa Ao ca co r2.all r2.ord A4 A5 c4 c5 l0 nx wc SS hC4 hs4 hC5 hs5 (by have := hG2.len; have := hG2.n5; omega) (by have := HI2.out.l4; have := HI2.out.n2; omega) (fun j j0 j1 => HI2.out.ord_ j0 j1) (fun j j0 j1 => by rw [(HI2.out.at_ j0 j1).2.len, hG2.len])
        clear k9 k10 hs4 hC4 hs5 hC5 SS hG2
        have HDROP : Aside0 (L.drop j = m :: L.drop (j + 1)) := ⟨by
         rw [List.drop_eq_getElem_cons hjl]
         congr 1
         rw [← HMV.out]
         unfold rd_T56
         simp [List.getD_eq_getElem?_getD, List.getElem?_eq_getElem hjl]⟩
        cases hfound : plFound r2.all r2.ord nx with
        | true =>
          rw [hfound] at HC102
          go_wp2_with (go_at_call 102; refine HC102.out.mono ?_; rintro e w4 ⟨rfl, hb4⟩)
          have HQ3 : Aside0 ((sVis l0 i (L.drop (j + 1)) r2).bind (sBfs l0 cl n1 (i + 1)) = RES) := ⟨by
           have h := HQ2.out
           rw [HDROP.out, sVis] at h
           simp only [HX.out, HNX.out, hfound, if_true] at h
           exact h⟩
          have HH3 : Aside0 (HeldL w w4 g r2 (.slice (some am) L.length cL) L) := ⟨(HMID.out.below hb4).memL⟩
          clear hb4 HC102 HMID hp0 hp1 hfound
          have hm1 : j + 1 ≤ L.length := by omega
          have hm2 : L.length - (j + 1) ≤ L.length - (j + 1) := Nat.le_refl _
          go_roundg (L.length - (j + 1))
          case measure => omega
          case rel => exact ⟨j + 1, r2, by go_num, hm1, hm2, hir, HX, HQ3, HI2, HH3⟩
        | false =>
          rw [hfound] at HC102
          have HFD := Aside0.mk hfound
          clear hfound
          go_upto_region 11 with (go_at_call 102; refine HC102.out.mono ?_; rintro e w4 ⟨rfl, hb4⟩)
          have M4 := HMID.out.below hb4
          clear HMID HC102 hp0 hp1 hb4
          obtain ⟨v0, ok, x0, x1, x2, x3, x4, hcell, ⟨A6, c6, rfl⟩, hN, hfr, hblk, hne, hFK, hnext⟩ := M4.row0
          obtain ⟨k9, k10, hs4, hC4, hs5, hC5⟩ := M4.vars
          have HM4 := Aside0.mk M4
          clear M4 hs4 hC4 hs5 hC5
          have hp0 := blk_cell k10 0
          have hp1 := blk_cell k10 1
          simp at hp0 hp1
          have hcell2 := pw_cell_below (below_alloc (Below.refl _ _) (.cells #[.slice A4 l0.length c4, .slice A5 nx.length c5] 33)) hcell
          have HN := Aside0.mk hN
          have HFR := Lib.hid hfr
          have HBK := Lib.hid hblk
          have HNE := Lib.hid hne
          have HFK := Lib.hid hFK
          have HNXT := Lib.hid hnext
          have HLM := Aside0.mk (show (r2.all.length + 1) * 48 ≤ 140737488355328 by have := HI2.out.n2; omega)
          have HBW := Aside0.mk HM4.out.bel
          clear hN hfr hblk hne hFK hnext k9 k10
          go_cut [] (fun wx => Aside0 (Mid w wx g n9 b10 (r2.all ++ [⟨l0, nx⟩]) r2.fr r2.ms r2.far r2.ord (.slice (some am) L.length cL) L m l0 nx A4 c4 A5 c5))
          case first =>
           go_region_law (first | (refine N_app_step k33 (w0 := w) (w4 := w4) w.heap.size (by rfl) (.tmp 65) (.tmp 67) 46 33 (.agg #[.slice none 0 0, .slice none 0 0]) 48 (by rfl) Try.underlying46 info33 rfl (by decide) (by omega) (.slice A6 r2.all.length c6) r2.all ⟨l0, nx⟩ [.slice A4 l0.length c4, .slice A5 nx.length c5] ok w4.heap.size (by rfl) (by rfl) HN.out HFR HFK HBW.out HBW.out.size HLM.out ?g3 (Nat.le_refl _) ?g4 ?_; (case g3 => repeat (first | exact Below.refl _ _ | apply below_drew | apply below_alloc)); (case g4 => exact blk_new _ _); intro v1 w5 ho hb hg hat; obtain ⟨A7, c7, rfl⟩ := Kd.N_slice ho; rw [List.length_append, List.length_singleton] at ho hat; have hbl := HBK w5 hg; have hq0 := blk_cell hbl 0; have hq1 := blk_frozen hbl 0; simp at hq0; have HO := Aside0.mk ho; have HB5 := Aside0.mk hb; have HG5 := Aside0.mk hg; have HAT := Aside0.mk hat; clear ho hb hg hat hbl))
           all_goals (go_wp2_with fail; go_meet)
           all_goals first | exact ⟨HNXT _ _ HO.out HB5.out HG5.out HAT.out⟩ | exact ⟨(HNXT _ _ HO.out HB5.out HG5.out HAT.out).drew⟩
          case rest =>
           clear HN HFR HBK HNE HFK HNXT HLM HBW HM4 hcell hp0 hp1 hcell2
           go_upto_region 12 with fail
           have M4 := hcut.out
           clear hcut
           obtain ⟨v0, ok, x0, x1, x2, x3, x4, hcell, ⟨A6, c6, rfl⟩, hN, hfr, hblk, hne, hnext⟩ := M4.row1
           obtain ⟨k9, k10, hs4, hC4, hs5, hC5⟩ := M4.vars
           have HM4 := Aside0.mk M4
           clear M4 hs4 hC4 hs5 hC5
           have HN := Aside0.mk hN
           have HFR := Lib.hid hfr
           have HBK := Lib.hid hblk
           have HNE := Lib.hid hne
           have HNXT := Lib.hid hnext
           have HLM := Aside0.mk (show (r2.fr.length + 1) * 8 ≤ 140737488355328 by have := HI2.out.n2; have := HI2.out.l1; omega)
           have HBW := Aside0.mk HM4.out.bel
           clear hN hfr hblk hne hnext k9 k10
           go_cut [] (fun wx => Aside0 (Mid w wx g n9 b10 (r2.all ++ [⟨l0, nx⟩]) (r2.fr ++ [(i : Int)]) r2.ms r2.far r2.ord (.slice (some am) L.length cL) L m l0 nx A4 c4 A5 c5))
           case first =>
            go_wp2_with (first | ((with_reducible refine gate_builtin (b := .append) (xs := #[.tmp 75, .tmp 77]) rfl ?_); at_builtin; refine R_app (Kd.int .i64) (w0 := w) (w4 := wc) w.heap.size (by rfl) (.tmp 75) (.tmp 77) 28 3 (.int .i64 0) 8 (by rfl) Try.underlying28 info3 rfl (by decide) (by omega) (.slice A6 r2.fr.length c6) r2.fr (i : Int) [.int .i64 (i : Int)] ok wc.heap.size (by rfl) (by rfl) HN.out HFR (fun _ _ => rfl) HBW.out HBW.out.size HLM.out ?g3 ?g4 ?_; (case g3 => repeat (first | exact Below.refl _ _ | apply below_drew | apply below_alloc)); (case g4 => exact blk_new _ _); intro v1 w5 ho hb hg; obtain ⟨A7, c7, rfl⟩ := Kd.R_slice ho; rw [List.length_append, List.length_singleton] at ho; have hbl := HBK w5 hg; have hq0 := blk_cell hbl 1; have hq1 := blk_frozen hbl 1; simp at hq0; have HO := Aside0.mk ho; have HB5 := Aside0.mk hb; have HG5 := Aside0.mk hg; clear ho hb hg hbl))
            all_goals (try go_meet)
            all_goals first | exact ⟨HNXT _ _ _ HO.out HB5.out HG5.out⟩ | exact ⟨(HNXT _ _ _ HO.out HB5.out HG5.out).drew⟩
           case rest =>
            clear HN HFR HBK HNE HNXT HLM HBW HM4 hcell  
            go_upto_region 13 with fail
            have M4 := hcut.out
            clear hcut
            obtain ⟨v0, ok, x0, x1, x2, x3, x4, hcell, ⟨A6, c6, rfl⟩, hN, hfr, hblk, hne, hnext⟩ := M4.row2
            obtain ⟨k9, k10, hs4, hC4, hs5, hC5⟩ := M4.vars
            have HM4 := Aside0.mk M4
            clear M4 hs4 hC4 hs5 hC5
            have hp0 := blk_cell k9 0
            have hp1 := blk_cell k9 1
            simp at hp0 hp1
            have hcell2 := pw_cell_below (below_alloc (Below.refl _ _) (.cells #[.int .i64 m.f0, .int .i64 m.f1] 56)) hcell
            have HN := Aside0.mk hN
            have HFR := Lib.hid hfr
            have HBK := Lib.hid hblk
            have HNE := Lib.hid hne
            have HNXT := Lib.hid hnext
            have HLM := Aside0.mk (show (r2.ms.length + 1) * 16 ≤ 140737488355328 by have := HI2.out.n2; have := HI2.out.l2; omega)
            have HBW := Aside0.mk HM4.out.bel
            clear hN hfr hblk hne hnext k9 k10
            go_cut [] (fun wx => Aside0 (Mid w wx g n9 b10 (r2.all ++ [⟨l0, nx⟩]) (r2.fr ++ [(i : Int)]) (r2.ms ++ [m]) r2.far r2.ord (.slice (some am) L.length cL) L m l0 nx A4 c4 A5 c5))
            case first =>
             go_region_law (first | (refine R_app_step k56 (w0 := w) (w4 := wc) w.heap.size (by rfl) (.tmp 85) (.tmp 87) 22 56 (.agg #[.int .i64 0, .int .i64 0]) 16 (by rfl) Try.underlying22 info56 rfl (by decide) (by omega) (.slice A6 r2.ms.length c6) r2.ms m [.int .i64 m.f0, .int .i64 m.f1] ok wc.heap.size (by rfl) (by rfl) HN.out HFR (fun _ _ => k56_mkM _ _ _ m) HBW.out HBW.out.size HLM.out ?g3 ?g4 ?_; (case g3 => repeat (first | exact Below.refl _ _ | apply below_drew | apply below_alloc)); (case g4 => exact blk_new _ _); intro v1 w5 ho hb hg; obtain ⟨A7, c7, rfl⟩ := Kd.R_slice ho; rw [List.length_append, List.length_singleton] at ho; have hbl := HBK w5 hg; have hq0 := blk_cell hbl 2; have hq1 := blk_frozen hbl 2; simp at hq0; have HO := Aside0.mk ho; have HB5 := Aside0.mk hb; have HG5 := Aside0.mk hg; clear ho hb hg hbl))
             all_goals (go_wp2_with fail; go_meet)
             all_goals first | exact ⟨HNXT _ _ _ HO.out HB5.out HG5.out⟩ | exact ⟨(HNXT _ _ _ HO.out HB5.out HG5.out).drew⟩
            case rest =>
             clear HN HFR HBK HNE HNXT HLM HBW HM4 hcell hp0 hp1 hcell2
             go_upto_region 14 with fail
             have M4 := hcut.out
             clear hcut
             obtain ⟨v0, ok, x0, x1, x2, x3, x4, hcell, ⟨A6, c6, rfl⟩, hN, hfr, hblk, hne, hnext⟩ := M4.row3
             obtain ⟨k9, k10, hs4, hC4, hs5, hC5⟩ := M4.vars
             have HM4 := Aside0.mk M4
             clear M4 hs4 hC4 hs5 hC5
             obtain ⟨aF, eF, hF0⟩ := Kd.at_int (Kd.R_reads' hN).2.2 (i : Int) (by omega) (by have := HI2.out.l3; omega)
             subst eF
             rw [Int.toNat_natCast] at hF0
             have hf0 := (HI2.out.farr i (by omega) (by omega)).1
             have hf1 := (HI2.out.farr i (by omega) (by omega)).2
             have hf2 : (i : Int) < (r2.far.length : Int) := by have := HI2.out.l3; omega
             have hwf : IntKind.i64.wrap (rd r2.far (i : Int) + 1) = rd r2.far (i : Int) + 1 := by have := HI2.out.n2; rw [IntKind.wrap_i64]; omega
             have HWF := Aside0.mk hwf
             clear hwf
             generalize hfe : rd r2.far (i : Int) = f at hF0 hf0 hf1 hnext HWF
             have HFE := Aside0.mk hfe
             clear hfe
             have hcell2 := pw_cell_below (below_alloc (Below.refl _ _) (.cells #[.int .i64 (IntKind.i64.wrap (f + 1))] 3)) hcell
             have HN := Aside0.mk hN
             have HFR := Lib.hid hfr
             have HBK := Lib.hid hblk
             have HNE := Lib.hid hne
             have HNXT := Lib.hid hnext
             have HLM := Aside0.mk (show (r2.far.length + 1) * 8 ≤ 140737488355328 by have := HI2.out.n2; have := HI2.out.l3; omega)
             have HBW := Aside0.mk HM4.out.bel
             clear hN hfr hblk hne hnext k9 k10
             go_cut [] (fun wx => Aside0 (Mid w wx g n9 b10 (r2.all ++ [⟨l0, nx⟩]) (r2.fr ++ [(i : Int)]) (r2.ms ++ [m]) (r2.far ++ [f + 1]) r2.ord (.slice (some am) L.length cL) L m l0 nx A4 c4 A5 c5))
             case first =>
              go_region_law (first | (refine R_app_step (Kd.int .i64) (w0 := w) (w4 := wc) w.heap.size (by rfl) (.tmp 95) (.tmp 104) 28 3 (.int .i64 0) 8 (by rfl) Try.underlying28 info3 rfl (by decide) (by omega) (.slice (some aF) r2.far.length c6) r2.far (IntKind.i64.wrap (f + 1)) [.int .i64 (IntKind.i64.wrap (f + 1))] ok wc.heap.size (by rfl) (by rfl) HN.out HFR (fun _ _ => rfl) HBW.out HBW.out.size HLM.out ?g3 ?g4 ?_; (case g3 => repeat (first | exact Below.refl _ _ | apply below_drew | apply below_alloc)); (case g4 => exact blk_new _ _); intro v1 w5 ho hb hg; obtain ⟨A7, c7, rfl⟩ := Kd.R_slice ho; rw [List.length_append, List.length_singleton] at ho; have hbl := HBK w5 hg; have hq0 := blk_cell hbl 3; have hq1 := blk_frozen hbl 3; simp at hq0; have HO := Aside0.mk ho; have HB5 := Aside0.mk hb; have HG5 := Aside0.mk hg; clear ho hb hg hbl))
              all_goals (go_wp2_with fail; go_meet)
              all_goals first | exact ⟨HNXT (f + 1) _ _ (HWF.out ▸ HO.out) HB5.out HG5.out⟩ | exact ⟨(HNXT (f + 1) _ _ (HWF.out ▸ HO.out) HB5.out HG5.out).drew⟩
             case rest =>
              clear HN HFR HBK HNE HNXT HLM HBW HM4 hcell hF0 hcell2
              go_upto_region 15 with fail
              have M4 := hcut.out
              clear hcut
              obtain ⟨v0, ok, x0, x1, x2, x3, x4, hcell, ⟨A6, c6, rfl⟩, hN, hfr, hblk, hne, hnext⟩ := M4.row4
              obtain ⟨k9, k10, hs4, hC4, hs5, hC5⟩ := M4.vars
              have HM4 := Aside0.mk M4
              clear M4 hs4 hC4 hs5 hC5
              have HN := Aside0.mk hN
              have HFR := Lib.hid hfr
              have HBK := Lib.hid hblk
              have HNE := Lib.hid hne
              have HNXT := Lib.hid hnext
              have HLM := Aside0.mk (show (r2.ord.length + 1) * 8 ≤ 140737488355328 by have := HI2.out.n2; have := HI2.out.l4; omega)
              have HBW := Aside0.mk HM4.out.bel
              clear hN hfr hblk hne hnext k9 k10
              go_cut [] (fun wx => Aside0 (Mid w wx g n9 b10 (r2.all ++ [⟨l0, nx⟩]) (r2.fr ++ [(i : Int)]) (r2.ms ++ [m]) (r2.far ++ [f + 1]) (r2.ord ++ [0]) (.slice (some am) L.length cL) L m l0 nx A4 c4 A5 c5))
              case first =>
               go_wp2_with (first | ((with_reducible refine gate_builtin (b := .append) (xs := #[.tmp 112, .tmp 113]) rfl ?_); at_builtin; refine R_app (Kd.int .i64) (w0 := w) (w4 := wc) w.heap.size (by rfl) (.tmp 112) (.tmp 113) 28 3 (.int .i64 0) 8 (by rfl) Try.underlying28 info3 rfl (by decide) (by omega) (.slice A6 r2.ord.length c6) r2.ord 0 [.int .i64 0] ok wc.heap.size (by rfl) (by rfl) HN.out HFR (fun _ _ => rfl) HBW.out HBW.out.size HLM.out ?g3 ?g4 ?_; (case g3 => repeat (first | exact Below.refl _ _ | apply below_drew | apply below_alloc)); (case g4 => exact blk_new _ _); intro v1 w5 ho hb hg; obtain ⟨A7, c7, rfl⟩ := Kd.R_slice ho; rw [List.length_append, List.length_singleton] at ho; have hbl := HBK w5 hg; have hq0 := blk_cell hbl 4; have hq1 := blk_frozen hbl 4; simp at hq0; have HO := Aside0.mk ho; have HB5 := Aside0.mk hb; have HG5 := Aside0.mk hg; clear ho hb hg hbl))
               all_goals (try go_meet)
               all_goals first | exact ⟨HNXT _ _ _ HO.out HB5.out HG5.out⟩ | exact ⟨(HNXT _ _ _ HO.out HB5.out HG5.out).drew⟩
              case rest =>
               clear HN HFR HBK HNE HNXT HLM HBW HM4 hcell  
               have hkle := plLow_le r2.all r2.ord nx
               generalize hkk : plLow r2.all r2.ord nx = k at hkle
               have HKK := Aside0.mk hkk
               clear hkk
               go_upto_region 16 with fail
               have M4 := hcut.out
               rw [← HFE.out] at M4
               clear hcut
               obtain ⟨v0, va, ok, hcell, ⟨A6, c6, rfl⟩, hcella, ⟨A7, c7, rfl⟩, hN, hnext⟩ := M4.row4s
               have hl4 := HI2.out.l4
               have hn2 := HI2.out.n2
               have e1 : (r2.ord ++ [(0 : Int)]).length = r2.all.length + 1 := by simp [hl4]
               rw [e1] at hcell hN hnext
               obtain ⟨gO, eO⟩ := R_some hN (by omega)
               subst eO
               have hcap := (Kd.R_reads' hN).2.1
               have hw1 : IntKind.i64.wrap ((k : Int) + 1) = (k : Int) + 1 := by rw [IntKind.wrap_i64]; omega
               have hw2 : (0 : Int) ≤ (k : Int) + 1 := by omega
               have hw3 : (k : Int) + 1 ≤ (r2.all.length : Int) + 1 := by omega
               have hw4 : (k : Int) ≤ (r2.all.length : Int) + 1 := by omega
               have hw5 : ((k : Int) + 1).toNat = k + 1 := by omega
               have hw6 : ¬ c6 = k := by omega
               have HN := Aside0.mk hN
               have HNXT := Lib.hid hnext
               have HBW := Aside0.mk M4.bel
               clear hN hnext M4
               go_cut [] (fun wx => Aside0 (Mid w wx g n9 b10 (r2.all ++ [⟨l0, nx⟩]) (r2.fr ++ [(i : Int)]) (r2.ms ++ [m]) (r2.far ++ [rd r2.far i + 1]) ((r2.ord ++ [0]).take (k + 1) ++ ((r2.ord ++ [0]).drop k).take (r2.all.length + 1 - (k + 1))) (.slice (some am) L.length cL) L m l0 nx A4 c4 A5 c5))
               case first =>
                go_region_law (first | (refine R_shift_step (w0 := w) w.heap.size (by rfl) (.tmp 123) (.tmp 129) 28 28 (by rfl) Try.underlying28 info3sz gO (r2.all.length + 1) c6 k (if c6 = k + 1 then some ⟨gO, 0, none⟩ else some ⟨gO, k + 1, none⟩) (c6 - (k + 1)) (c6 - k) (r2.ord ++ [0]) ok ?g1 ?g2 ?g3 ?g4 ?g5 (Kd.R_drew HN.out) (below_drew HBW.out) ?_; (case g1 => omega); (case g2 => simp [hl4]); (case g3 => (rw [Nat.add_sub_add_right]; rfl)); (case g4 => rfl); (case g5 => intro hlt; rw [if_neg (by omega)]); intro w5 ho hb hg; have HO := Aside0.mk ho; have HB5 := Aside0.mk hb; have HG5 := Aside0.mk hg; clear ho hb hg))
                all_goals (go_wp2_with fail)
                all_goals go_meet
                all_goals
                 have hgx := grown_of_below (below_drew (Below.refl wc.heap.size wc)) HG5.out
                 have hfin := HNXT _ w5 HO.out HB5.out hgx
                 exact ⟨hfin⟩
               case rest =>
                clear HN HNXT HBW hcell hcella hw1 hw2 hw3 hw4 hw5 hw6 hcap
                go_upto_region 17 with fail
                have M4 := hcut.out
                clear hcut
                obtain ⟨v0, va, ok, hcell, ⟨A6, c6, rfl⟩, hcella, ⟨A7, c7, rfl⟩, hN, hnext⟩ := M4.row4s
                have e2 : ((r2.ord ++ [0]).take (k + 1) ++ ((r2.ord ++ [0]).drop k).take (r2.all.length + 1 - (k + 1))).length = r2.all.length + 1 := by rw [List.length_append, List.length_take, List.length_take, List.length_drop, e1]; omega
                have e3 : (r2.all ++ [(⟨l0, nx⟩ : S33)]).length = r2.all.length + 1 := by simp
                have e4 := shift_ins r2.ord k (r2.all.length : Int) hkle
                rw [hl4] at e4
                rw [e2] at hcell hN hnext
                rw [e3] at hcella
                generalize (r2.ord ++ [0]).take (k + 1) ++ ((r2.ord ++ [0]).drop k).take (r2.all.length + 1 - (k + 1)) = ol at hcell hN hnext e2 e4
                obtain ⟨gO, eO⟩ := R_some hN (by omega)
                subst eO
                have hoc := Kd.R_cell (d := (0 : Int)) (by rw [e2]; exact hN) (k : Int) (by omega) (by rw [e2]; omega)
                rw [Int.toNat_natCast] at hoc
                obtain ⟨hoc0, hoc1⟩ := hoc
                have hkl : (k : Int) < (r2.all.length : Int) + 1 := by omega
                have HN := Aside0.mk hN
                have HNXT := Lib.hid hnext
                have HBW := Aside0.mk M4.bel
                have E4 := Aside0.mk e4
                have E2 := Aside0.mk e2
                clear hN hnext M4 e1 e2 e3 e4
                go_cut [] (fun wx => Aside0 (Mid w wx g n9 b10 (r2.all ++ [⟨l0, nx⟩]) (r2.fr ++ [(i : Int)]) (r2.ms ++ [m]) (r2.far ++ [rd r2.far i + 1]) (insAt r2.ord k (r2.all.length : Int)) (.slice (some am) L.length cL) L m l0 nx A4 c4 A5 c5))
                case first =>
                 go_region_law (fail)
                 all_goals (go_wp2_with fail; go_meet)
                 all_goals exact ⟨(HNXT _ _ (by rw [← E4.out]; have := Kd.R_putn HN.out (k : Int) (r2.all.length : Int); rw [Int.toNat_natCast] at this; rw [show IntKind.i64.wrap (r2.all.length : Int) = (r2.all.length : Int) by rw [IntKind.wrap_i64]; omega]; exact this) (HBW.out.setCell (Kd.R_base HN.out gO rfl) _) (by have := (Kd.R_putg HN.out (k : Int) (IntKind.i64.wrap (r2.all.length : Int))).2; rw [Int.toNat_natCast] at this; exact this)).drew⟩
                case rest =>
                 clear HN HNXT HBW hcell hcella hoc0 hoc1 E4 E2
                 have hcg : ∃ A7 c7, wc.cell? ⟨g, 0, none⟩ = some (.slice A7 (r2.all.length + 1) c7) := by
                  obtain ⟨v0, va, ok, hcell, ⟨A6, c6, rfl⟩, hcella, ⟨A7, c7, rfl⟩, hN, hnext⟩ := hcut.out.row4s
                  exact ⟨A7, c7, by simpa using hcella⟩
                 obtain ⟨A7, c7, hcella⟩ := hcg
                 have HML := hcut.out.memL
                 have HBW := Aside0.mk hcut.out.bel
                 have HML := Aside0.mk HML
                 clear hcut
                 by_cases hbig : 3000 < r2.all.length + 1
                 · have hbz : (3000 : Int) < (r2.all.length : Int) + 1 := by omega
                   have hq := HQ2.out
                   rw [HDROP.out, sVis] at hq
                   simp only [HX.out, HNX.out, HFD.out, if_pos hbig, Bool.false_eq_true, if_false, Option.bind_none] at hq
                   have HRES := Aside0.mk hq
                   clear hq
                   go_wp2_with fail
                   refine bodyPost_ret (v := .tuple #[.pointer (some ⟨g, 0, none⟩), .bool false]) (by simp [results, Try.results134, go_sem]) rfl ?_
                   exact ⟨g, HBW.out, by rw [← HRES.out]⟩
                 · have hbz : ¬ (3000 : Int) < (r2.all.length : Int) + 1 := by omega
                   have hq := HQ2.out
                   rw [HDROP.out, sVis] at hq
                   simp only [HX.out, HNX.out, HFD.out, if_neg hbig, Bool.false_eq_true, if_false] at hq
                   rw [HKK.out] at hq
                   have HQ3 := Aside0.mk hq
                   clear hq
                   have hm1 : j + 1 ≤ L.length := by omega
                   have hm2 : L.length - (j + 1) ≤ L.length - (j + 1) := Nat.le_refl _
                   go_wp2_with fail
                   go_roundg (L.length - (j + 1))
                   case measure => omega
                   case rel =>
                    refine ⟨j + 1, sAdd r2 i m ⟨l0, nx⟩ k, by go_num, hm1, hm2, ?_, ⟨?_⟩, HQ3, ⟨?_⟩, HML⟩
                    · simp [sAdd]; omega
                    · show rd_T33 (r2.all ++ [_]) i = _
                      rw [rdT_append_lt (by omega) (by omega)]; exact HX.out
                    · exact HI2.out.add hir m (by rw [← HNX.out]; exact beh_good HGi.out HMVV.out) hkle (by omega)

     · have hjz : ¬ (j : Int) < (L.length : Int) := by omega
       have hq := HQ2.out
       rw [List.drop_eq_nil_of_le (by omega), sVis, Option.bind_some] at hq
       have HQ4 := Aside0.mk hq
       clear hq
       have hi3 : i + 1 ≤ 3000 := by have := HI2.out.n2; omega
       have HH4 : Aside0 (Held w wr g r2) := ⟨_, _, _, _, _, _, _, _, M⟩
       have hgg3 : 3001 - (i + 1) ≤ n1 := by omega
       clear M
       go_wp2_with fail
       go_roundg n1
       case measure => omega
       case rel => exact ⟨i + 1, r2, by go_num, hi3, hgg3, HQ4, HI2, HH4⟩
  · have hltz : ¬ (i : Int) < (r.all.length : Int) := by omega
    have hq := HQ.out
    obtain ⟨n1, rfl⟩ : ∃ n1, gk = n1 + 1 := ⟨gk - 1, by omega⟩
    rw [sBfs, if_neg hlt] at hq
    have HRES := Aside0.mk hq
    have HM := Aside0.mk M
    clear hq M HQ
    go_wp2_with fail
    refine bodyPost_ret (v := .tuple #[.pointer (some ⟨g, 0, none⟩), .bool true]) (by simp [results, Try.results134, go_sem]) rfl ?_
    exact ⟨g, HM.out.bel, by rw [← HRES.out]; exact ⟨rfl, _, _, _, _, _, _, _, _, HM.out⟩⟩
end Go.Proofs.Ytjllbahhkeglfaa.P
namespace Go.Proofs.Ytjllbahhkeglfaa.P
open Go.RowKit Go.Proofs.YtjllbahhkeglfaaW.PrintWords Go.Proofs.YtjllbahhkeglfaaW.PrintLast Go.Proofs.YtjllbahhkeglfaaW.PrintMore
set_option linter.unusedVariables false
set_option linter.unusedSimpArgs false
theorem Mem.lower {w0 w1 w : World} {g : Nat} {c : Nat → Nat} {va vf vm vd vo vl : Value} {all : List S33} {fr : List Int} {ms : List S56} {far ord : List Int} {ls : List S56} (M : Mem w1 w g c va vf vm vd vo vl all fr ms far ord ls) (hb : Below w0.heap.size w0 w1) : Mem w0 w g c va vf vm vd vo vl all fr ms far ord ls :=
 ⟨M.blk, M.cg, Nat.le_trans hb.size M.gb, M.a1, Kd.N_lower M.na hb.size, Kd.R_lower M.nf hb.size, Kd.R_lower M.nm hb.size, Kd.R_lower M.nd hb.size, Kd.R_lower M.no hb.size, Kd.R_lower M.nl hb.size, below_step hb M.bel⟩
theorem AllEnd.lower {w w1 : World} {RES : Option Srch} {e : Ending} {w' : World} (h : AllEnd w1 RES e w') (hb : Below w.heap.size w w1) : AllEnd w RES e w' := by
 obtain ⟨g, hB, h⟩ := h
 refine ⟨g, below_step hb hB, ?_⟩
 cases RES with
 | none => exact h
 | some r =>
   obtain ⟨e, c, va, vf, vm, vd, vo, vl, ls, M⟩ := h
   exact ⟨e, c, va, vf, vm, vd, vo, vl, ls, M.lower hb⟩
theorem AllEnd.shape {w : World} {RES : Option Srch} {e : Ending} {w' : World} (h : AllEnd w RES e w') : ∃ g b, e = .returned (.tuple #[.pointer (some ⟨g, 0, none⟩), .bool b]) := by
 obtain ⟨g, hB, h⟩ := h
 cases RES with
 | none => exact ⟨g, false, h⟩
 | some r => exact ⟨g, true, h.1⟩
/-- What plAsked leaves. -/
def AskEnd (w : World) (s h : List Int) (cl : Bool) (e : Ending) (w' : World) : Prop :=
 if goodB s h = true then AllEnd w (sBfs s cl 3001 0 (sStart s h)) e w' else e = .returned (.tuple #[.pointer none, .bool false]) ∧ Below w.heap.size w w'
set_option maxHeartbeats 1000000 in
set_option maxRecDepth 100000 in
theorem spec_plAsked.calls (cl : Bool) (A0 A1 : Option Addr) (c0 c1 : Nat) (l0 l1 : List Int) (w : World) (hr0 : Kd.C (Kd.int .i64) w A0 l0.length l0) (hc0 : l0.length ≤ c0) (hr1 : Kd.C (Kd.int .i64) w A1 l1.length l1) (hc1 : l1.length ≤ c1) :
 Calls Try.prog 86 #[.agg #[.slice A0 l0.length c0, .slice A1 l1.length c1], .bool cl] w (AskEnd w l0 l1 cl) := by
 obtain ⟨k, hk⟩ := (spec_are_ev l0 l1).rounds
 have HC118 : Hid (∀ W, Below w.heap.size w W → Calls Try.prog 118 #[.agg #[.slice A0 l0.length c0, .slice A1 l1.length c1]] W fun e w' => e = .returned (.bool (goodB l0 l1)) ∧ Below W.heap.size W w') := by
  intro W hW
  exact (spec_veGood.calls k A0 c0 l0 A1 c1 l1 _ W (Kd.C_below hr0 hW) hc0 (Kd.C_below hr1 hW) hc1 hk)
 have HC134 : Hid (goodB l0 l1 = true → ∀ W, Below w.heap.size w W → Calls Try.prog 134 #[.agg #[.slice A0 l0.length c0, .slice A1 l1.length c1], .bool cl] W (AllEnd W (sBfs l0 cl 3001 0 (sStart l0 l1)))) := by
  intro hg W hW
  exact spec_plAll.calls cl A0 A1 c0 c1 l0 l1 W (Kd.C_below hr0 hW) hc0 (Kd.C_below hr1 hW) hc1 (goodB_iff.1 hg)
 clear hk hr0 hr1
 have hu33 := Try.underlying33
 go_enter Try.func86, Try.ntmps86
 unfold AskEnd
 cases hgb : goodB l0 l1 with
 | true =>
   rw [hgb] at HC118 HC134
   simp only [if_true]
   have b1 := below_alloc (Below.refl w.heap.size w) (.cells #[.slice A0 l0.length c0, .slice A1 l1.length c1] 33)
   have k1 := blk_new w (.cells #[.slice A0 l0.length c0, .slice A1 l1.length c1] 33)
   have HB1 := Aside0.mk b1
   have HK1 := Aside0.mk k1
   clear b1 k1
   go_wp2_with (first | (go_at_call 134; (refine ((HC134.out (by trivial)) _ HB2.out).mono ?_; intro e w2 hE; obtain ⟨g, b, rfl⟩ := hE.shape; have HE := Aside0.mk (hE.lower HB2.out); clear hE)) | (go_at_call 118; refine (HC118.out _ HB1.out).mono ?_; rintro e w1 ⟨rfl, hb⟩; have hk := blk_below HK1.out hb; have h0 := blk_cell hk 0; have h1 := blk_cell hk 1; simp at h0 h1; have HB2 := Aside0.mk (HB1.out.trans (hb.mono (by simp))); clear hb hk))
   refine bodyPost_ret (v := .tuple #[.pointer (some ⟨g, 0, none⟩), .bool b]) (by simp [results, Try.results86, go_sem]) rfl ?_
   exact HE.out
 | false =>
   rw [hgb] at HC118
   clear HC134
   simp only [Bool.false_eq_true, if_false]
   go_wp2_with (go_at_call 118; refine (HC118.out _ (below_alloc (Below.refl w.heap.size w) (.cells #[.slice A0 l0.length c0, .slice A1 l1.length c1] 33))).mono ?_; rintro e w1 ⟨rfl, hb⟩; have HB2 := Aside0.mk ((below_alloc (Below.refl w.heap.size w) (.cells #[.slice A0 l0.length c0, .slice A1 l1.length c1] 33)).trans (hb.mono (by simp))); clear hb)
   refine bodyPost_ret (v := .tuple #[.pointer none, .bool false]) (by simp [results, Try.results86, go_sem]) rfl ?_
   exact ⟨rfl, HB2.out⟩
end Go.Proofs.Ytjllbahhkeglfaa.P
namespace Go.Proofs.Ytjllbahhkeglfaa.P
open Go.RowKit Go.Proofs.YtjllbahhkeglfaaW.PrintWords Go.Proofs.YtjllbahhkeglfaaW.PrintLast Go.Proofs.YtjllbahhkeglfaaW.PrintMore
attribute [local go_sem] max2_int min2_int max_two min_two max_three min_three max_four min_four
set_option linter.unusedVariables false
set_option linter.unusedSimpArgs false

/-! ### spec_plAmount: function 87 -/
def spec_plAmount.f (a0 : Int) : Option (Bool) := (spec_l1In.f a0 0 60).bind fun t101 => (some t101)
set_option maxHeartbeats 8000000 in
set_option maxRecDepth 100000 in
theorem spec_plAmount.calls (a0 : Int) (r : Bool) (w : World) (h : spec_plAmount.f a0 = some r) :
 Calls Try.prog 87 #[.int .i64 a0] w fun e w' => e = .returned (.bool r) ∧ Drawn0 w w' := by
 have H : ((spec_l1In.f a0 0 60).bind fun t101 => (some t101)) = some r := h
 clear h
 replace H := Option.bind_eq_some_iff.mp H
 obtain ⟨t101, A20, H⟩ := H
 replace H : (some t101) = some r := H
 have A2 := Aside0.mk A20
 clear A20
 obtain rfl := Option.some.inj H
 go_enter Try.func87, Try.ntmps87
 go_wp2_with (first | ((with_reducible refine gate_callee (f := 142) rfl ?_); refine goesL_ (some 4) rfl rfl Try.func142 (by kernel_rfl) rfl #[.int .i64 a0, .int .i64 0, .int .i64 60] rfl (by (try simp only [List.map_toArray, List.map_cons, List.map_nil]); first | done | rfl | (simp only [List.length_drop, List.length_take]; rfl)) ?_; (with_reducible refine (spec_l1In.calls a0 0 60 t101 _ A2.out).mono ?_); rintro e w' ⟨rfl, ⟨nd, rfl⟩⟩; refine ⟨_, rfl, ?_⟩))
 go_ret
 exact ⟨by first | rfl | (simp; done) | (simp [*]; done), by repeat (first | exact Drawn0.refl _ | apply Drawn0.step)⟩

end Go.Proofs.Ytjllbahhkeglfaa.P
namespace Go.Proofs.Ytjllbahhkeglfaa.P
open Go.RowKit Go.Proofs.YtjllbahhkeglfaaW.PrintWords Go.Proofs.YtjllbahhkeglfaaW.PrintLast Go.Proofs.YtjllbahhkeglfaaW.PrintMore
set_option linter.unusedVariables false
set_option linter.unusedSimpArgs false
/-- The first vessels that hold an amount, numbered from i on. -/
def firstHit (a : Int) : List S33 → Int → Option Int
 | [], _ => none
 | x :: l, i => if a ∈ x.f1 then some i else firstHit a l (i + 1)
/-- A plan from a search. -/
def hitP (r : Srch) : Option Int → List S56 × Bool
 | some i => (wayP r.fr r.ms r.fr.length i [], true)
 | none => ([], false)
def planP (r : Option Srch) (a : Int) : List S56 × Bool :=
 match r with
 | none => ([], false)
 | some r => if 0 ≤ a ∧ a ≤ 60 then hitP r (firstHit a r.all 0) else ([], false)
noncomputable def spec_PlanToAmount.f (k : Nat) (l0 l1 : List Int) (a : Int) (c : Bool) : Option (List S56 × Bool) :=
 some (if goodB l0 l1 = true then planP (sBfs l0 c 3001 0 (sStart l0 l1)) a else ([], false))
theorem spec_PlanToAmount.mono : ∀ l0 l1 a c k, LeO (spec_PlanToAmount.f k l0 l1 a c) (spec_PlanToAmount.f (k + 1) l0 l1 a c) := fun _ _ _ _ _ => LeO.refl _
theorem spec_plAmount_eq (a : Int) : spec_plAmount.f a = some (decide (0 ≤ a ∧ a ≤ 60)) := by
 unfold spec_plAmount.f spec_l1In.f
 by_cases h0 : 0 ≤ a <;> by_cases h1 : a ≤ 60 <;> simp [h0, h1] <;> try omega
theorem firstHit_bd {a : Int} : ∀ {l : List S33} {i r : Int}, firstHit a l i = some r → i ≤ r ∧ r < i + l.length
 | [], i, r, h => by cases h
 | x :: l, i, r, h => by
   rw [firstHit] at h
   split at h
   · injection h with h; simp; omega
   · have := firstHit_bd h; simp; omega
set_option maxHeartbeats 4000000 in
set_option maxRecDepth 100000 in
theorem spec_PlanToAmount.calls (k : Nat) (A0 : Option Addr) (c0 : Nat) (l0 : List Int) (A1 : Option Addr) (c1 : Nat) (l1 : List Int) (a : Int) (c : Bool) (r1 : List S56) (r2 : Bool) (w : World) (hr0 : Kd.C (Kd.int .i64) w A0 l0.length l0) (hc0 : l0.length ≤ c0) (hr1 : Kd.C (Kd.int .i64) w A1 l1.length l1) (hc1 : l1.length ≤ c1) (h : spec_PlanToAmount.f k l0 l1 a c = some (r1, r2)) :
 Calls Try.prog 18 #[.agg #[.slice A0 l0.length c0, .slice A1 l1.length c1], .int .i64 a, .bool c] w fun e w' => ∃ v0_ : Value, e = .returned (.tuple #[v0_, .bool r2]) ∧ Kd.R k56 56 w' w.heap.size (fun _ => True) v0_ r1 ∧ Below w.heap.size w w' := by
 have HC86 : Hid (∀ W, Below w.heap.size w W → Calls Try.prog 86 #[.agg #[.slice A0 l0.length c0, .slice A1 l1.length c1], .bool c] W (AskEnd W l0 l1 c)) := by
  intro W hW
  exact spec_plAsked.calls c A0 A1 c0 c1 l0 l1 W (Kd.C_below hr0 hW) hc0 (Kd.C_below hr1 hW) hc1
 have HC87 : Hid (∀ W, Calls Try.prog 87 #[.int .i64 a] W fun e w' => e = .returned (.bool (decide (0 ≤ a ∧ a ≤ 60))) ∧ Drawn0 W w') := by
  intro W
  exact spec_plAmount.calls a _ W (spec_plAmount_eq a)
 have hres := Option.some.inj h
 have hu92 := Try.underlying92
 have hu33 := Try.underlying33
 clear h hr0 hr1
 have b1 := Aside0.mk (below_alloc (Below.refl w.heap.size w) (.cells #[.slice A0 l0.length c0, .slice A1 l1.length c1] 33))
 go_enter Try.func18, Try.ntmps18
 by_cases hg : goodB l0 l1 = true
 · rw [if_pos hg] at hres
   have HI : Aside0 (SInv l0 (sStart l0 l1)) := ⟨SInv.start (goodB_iff.1 hg)⟩
   have HE86 : Hid (∀ W e w', AskEnd W l0 l1 c e w' → AllEnd W (sBfs l0 c 3001 0 (sStart l0 l1)) e w') := by
    intro W e w' h
    unfold AskEnd at h
    rwa [if_pos hg] at h
   generalize hS : sBfs l0 c 3001 0 (sStart l0 l1) = S at hres HE86
   cases S with
   | none =>
     obtain ⟨rfl, rfl⟩ := Prod.mk.inj hres
     go_wp2_with (first | (go_at_call 86; (refine (HC86.out _ b1.out).mono ?_; intro e w2 hE; obtain ⟨g, hb, he⟩ := HE86.out _ _ _ hE; subst he; clear hE; have HB2 := Aside0.mk (b1.out.trans (hb.mono (by simp))); clear hb)))
     refine bodyPost_ret (v := .tuple #[.slice none 0 0, .bool false]) (by simp [results, Try.results18, go_sem]) rfl ?_
     exact ⟨_, rfl, Kd.R_nil _ _ _ _ _, HB2.out⟩
   | some r =>
     have HINV : Aside0 (SInv l0 r) := ⟨sBfs_inv 3001 0 _ r HI.out hS⟩
     clear hS HI
     by_cases ha : 0 ≤ a ∧ a ≤ 60
     · rw [planP, if_pos ha] at hres
       rw [decide_eq_true ha] at HC87
       have HRES := Aside0.mk hres
       clear hres
       go_wp2_with (first | (go_at_call 86; (refine (HC86.out _ b1.out).mono ?_; intro e w2 hE; obtain ⟨g, hb, he, c9, va, vf, vm, vd, vo, vl, ls, M⟩ := HE86.out _ _ _ hE; subst he; clear hE; have HB2 := Aside0.mk (b1.out.trans (hb.mono (by simp))); have hb0 := blk_cell M.blk 0; simp at hb0; obtain ⟨Aa, ca, rfl⟩ := Kd.N_slice M.na; have HM := Aside0.mk (M.lower b1.out); clear hb M)) | (go_at_call 87; (refine (HC87.out _).mono ?_; rintro e w3 ⟨rfl, hd⟩; obtain ⟨n3, rfl⟩ := hd.out; have hb0' := pw_cell_below (pw_below_drewN (Below.refl w2.heap.size w2) n3) hb0; clear hb0; have hb0 := hb0'; clear hb0'; clear hd)))
       have hn2 := HINV.out.n2
       have HM3 := Aside0.mk (HM.out.below (pw_below_drewN (Below.refl w2.heap.size w2) n3))
       clear HM HB2 HC86 HC87 hb0
       go_loopg [30] r.all.length (fun gg s30 wr => ∃ i : Nat, s30 = .int .i64 i ∧ i ≤ r.all.length ∧ r.all.length - i ≤ gg ∧ Aside0 (hitP r (firstHit a (r.all.drop i) (i : Int)) = (r1, r2)) ∧ Aside0 (Mem w wr g c9 (.slice Aa r.all.length ca) vf vm vd vo vl r.all r.fr r.ms r.far r.ord ls))
       case atStart => exact ⟨0, rfl, by omega, by omega, HRES, HM3⟩
       case round =>
        clear HRES HM3
        obtain ⟨i, rfl, hi, hgg, HQ, HM⟩ := hrel
        by_cases hlt : i < r.all.length
        · have hltz : (i : Int) < (r.all.length : Int) := by omega
          obtain ⟨aa, B0, d0, B1, d1, ea, hy0, hy1, hd0, hz0, hd1, hz1⟩ := at_T33 (Kd.N_reads' HM.out.na).2.2 (i : Int) (by omega) (by omega)
          subst ea
          rw [Int.toNat_natCast] at hy0 hy1
          have hq := HQ.out
          have hdr : r.all.drop i = rd_T33 r.all i :: r.all.drop (i + 1) := by
           rw [List.drop_eq_getElem_cons hlt]
           congr 1
           unfold rd_T33
           simp [List.getD_eq_getElem?_getD, List.getElem?_eq_getElem hlt]
          rw [hdr, firstHit] at hq
          clear hdr HQ
          have hx5 : (rd_T33 r.all i).f1.length ≤ 5 := by have h := (HINV.out.at_ (i := (i : Int)) (by omega) (by omega)).2; have h1 := h.len; have h2 := h.n5; omega
          generalize rd_T33 r.all i = X at hx5 hy0 hy1 hd0 hz0 hd1 hz1 hq
          obtain ⟨kh, hkh⟩ := (spec_has_ev X.f1 a (by omega)).rounds
          have HC88 : Hid (∀ W, Below wr.heap.size wr W → Calls Try.prog 88 #[.slice B1 X.f1.length d1, .int .i64 a] W fun e w' => e = .returned (.bool (decide (a ∈ X.f1))) ∧ Below W.heap.size W w') := by
           intro W hW
           refine (spec_l1Has.calls kh B1 d1 X.f1 a _ W (Kd.C_below hz1 hW) hd1 hkh).mono ?_
           rintro e w' ⟨rfl, hd⟩
           exact ⟨rfl, hd.below⟩
          clear hkh hz0 hz1 hd0 hd1
          have HMA := Aside0.mk (HM.out.below (below_alloc (Below.refl wr.heap.size wr) (.cells #[.slice B0 X.f0.length d0, .slice B1 X.f1.length d1] 33)))
          by_cases hm : a ∈ X.f1
          · rw [if_pos hm] at hq
            rw [decide_eq_true hm] at HC88
            have HC89 : Hid (∀ W, Mem w W g c9 (.slice (some aa) r.all.length ca) vf vm vd vo vl r.all r.fr r.ms r.far r.ord ls → Calls Try.prog 89 #[.pointer (some ⟨g, 0, none⟩), .int .i64 i] W fun e w' => ∃ v0 : Value, e = .returned v0 ∧ Kd.R k56 56 w' w.heap.size (fun _ => True) v0 (wayP r.fr r.ms r.fr.length i []) ∧ Below w.heap.size w w') := by
             intro W M
             obtain ⟨Af, cf, rfl⟩ := Kd.R_slice M.nf
             obtain ⟨Am, cm, rfl⟩ := Kd.R_slice M.nm
             refine (spec_plWay.calls g _ vd vo Af Am cf cm r.fr r.ms (i : Int) W M.blk (Kd.R_reads' M.nf).2.2 (Kd.R_reads' M.nm).2.2 (by rw [HINV.out.l1, HINV.out.l2]) (by rw [HINV.out.l1]; omega) (by omega) (by rw [HINV.out.l1]; omega) (fun j j0 j1 => HINV.out.frr j j0 (by rw [← HINV.out.l1]; exact j1))).mono ?_
             rintro e w' ⟨v0, rfl, h0, h1⟩
             exact ⟨v0, rfl, Kd.R_lower h0 M.bel.size, below_step M.bel h1⟩
            obtain ⟨rfl, rfl⟩ := Prod.mk.inj hq
            go_wp2_with (first | (go_at_call 88; (refine (HC88.out _ (below_alloc (Below.refl _ _) _)).mono ?_; rintro e w5 ⟨rfl, hb⟩; have HM5 := Aside0.mk (HMA.out.below hb); clear hb)) | (go_at_call 89; (refine (HC89.out _ HM5.out).mono ?_; rintro e w6 ⟨v0, rfl, h0, h1⟩; obtain ⟨A7, c7, rfl⟩ := Kd.R_slice h0; have H0 := Aside0.mk h0; have H1 := Aside0.mk h1; clear h0 h1)))
            refine bodyPost_ret (v := .tuple #[.slice A7 _ c7, .bool true]) (by simp [results, Try.results18, go_sem]; rfl) rfl ?_
            exact ⟨_, rfl, H0.out, H1.out⟩
          · rw [if_neg hm] at hq
            rw [decide_eq_false hm] at HC88
            have HQ2 := Aside0.mk hq
            clear hq
            have hm1 : i + 1 ≤ r.all.length := by omega
            have hm2 : r.all.length - (i + 1) ≤ r.all.length - (i + 1) := Nat.le_refl _
            go_wp2_with (first | (go_at_call 88; (refine (HC88.out _ (below_alloc (Below.refl _ _) _)).mono ?_; rintro e w5 ⟨rfl, hb⟩; have HM5 := Aside0.mk (HMA.out.below hb); clear hb)))
            go_roundg (r.all.length - (i + 1))
            case measure => omega
            case rel => exact ⟨i + 1, by go_num, hm1, hm2, ⟨by have := HQ2.out; rwa [show ((i + 1 : Nat) : Int) = (i : Int) + 1 by omega]⟩, HM5⟩
        · have hltz : ¬ (i : Int) < (r.all.length : Int) := by omega
          have hq := HQ.out
          rw [List.drop_eq_nil_of_le (by omega), firstHit, hitP] at hq
          obtain ⟨rfl, rfl⟩ := Prod.mk.inj hq
          go_wp2_with fail
          refine bodyPost_ret (v := .tuple #[.slice none 0 0, .bool false]) (by simp [results, Try.results18, go_sem]) rfl ?_
          exact ⟨_, rfl, Kd.R_nil _ _ _ _ _, HM.out.bel⟩
     · rw [planP, if_neg ha] at hres
       rw [decide_eq_false ha] at HC87
       obtain ⟨rfl, rfl⟩ := Prod.mk.inj hres
       go_wp2_with (first | (go_at_call 86; (refine (HC86.out _ b1.out).mono ?_; intro e w2 hE; obtain ⟨g, hb, he, _⟩ := HE86.out _ _ _ hE; subst he; clear hE; have HB2 := Aside0.mk (b1.out.trans (hb.mono (by simp))); clear hb)) | (go_at_call 87; (refine (HC87.out _).mono ?_; rintro e w3 ⟨rfl, hd⟩; have HB3 := Aside0.mk (HB2.out.trans (hd.below.mono HB2.out.size)); clear hd)))
       refine bodyPost_ret (v := .tuple #[.slice none 0 0, .bool false]) (by simp [results, Try.results18, go_sem]) rfl ?_
       exact ⟨_, rfl, Kd.R_nil _ _ _ _ _, HB3.out⟩
 · rw [if_neg hg] at hres
   obtain ⟨rfl, rfl⟩ := Prod.mk.inj hres
   have HE86 : Hid (∀ W e w', AskEnd W l0 l1 c e w' → e = .returned (.tuple #[.pointer none, .bool false]) ∧ Below W.heap.size W w') := by
    intro W e w' h
    unfold AskEnd at h
    rwa [if_neg hg] at h
   go_wp2_with (first | (go_at_call 86; (refine (HC86.out _ b1.out).mono ?_; intro e w2 hE; obtain ⟨rfl, hb⟩ := HE86.out _ _ _ hE; clear hE; have HB2 := Aside0.mk (b1.out.trans (hb.mono (by simp))); clear hb)) | (go_at_call 87; fail))
   refine bodyPost_ret (v := .tuple #[.slice none 0 0, .bool false]) (by simp [results, Try.results18, go_sem]) rfl ?_
   exact ⟨_, rfl, Kd.R_nil _ _ _ _ _, HB2.out⟩
end Go.Proofs.Ytjllbahhkeglfaa.P
namespace Go.Proofs.Ytjllbahhkeglfaa.P
open Go.RowKit Go.Proofs.YtjllbahhkeglfaaW.PrintWords Go.Proofs.YtjllbahhkeglfaaW.PrintLast Go.Proofs.YtjllbahhkeglfaaW.PrintMore
set_option linter.unusedVariables false
set_option linter.unusedSimpArgs false
noncomputable def impl_PlanToAmount.f (k : Nat) (l0 l1 : List Int) (a : Int) (c : Bool) : Option (List S56 × Bool) := some (planP (reachP l0 l1 c) a)
theorem impl_PlanToAmount.mono : ∀ l0 l1 a c k, LeO (impl_PlanToAmount.f k l0 l1 a c) (impl_PlanToAmount.f (k + 1) l0 l1 a c) := fun _ _ _ _ _ => LeO.refl _
theorem planP_fgt (r : Option Srch) (a : Int) : planP (r.map fgt) a = planP r a := by
 cases r with
 | none => rfl
 | some r => show (if 0 ≤ a ∧ a ≤ 60 then hitP (fgt r) (firstHit a r.all 0) else _) = (if 0 ≤ a ∧ a ≤ 60 then hitP r (firstHit a r.all 0) else _); cases firstHit a r.all 0 <;> rfl
/-- The program's plan is the reference's. -/
theorem PlanToAmount_eq (k : Nat) (l0 l1 : List Int) (a : Int) (c : Bool) : impl_PlanToAmount.f k l0 l1 a c = spec_PlanToAmount.f k l0 l1 a c := by
 unfold impl_PlanToAmount.f spec_PlanToAmount.f reachP reachM
 by_cases hg : goodB l0 l1 = true
 · rw [if_pos hg, if_pos hg, search_eq (goodB_iff.1 hg), planP_fgt]
 · rw [if_neg hg, if_neg hg]; rfl
theorem firstHit_idx (a : Int) : ∀ (l : List S33) (i : Int), 0 ≤ i → firstHit a l i = if idx (fun x => decide (a ∈ x.f1)) l i < 0 then none else some (idx (fun x => decide (a ∈ x.f1)) l i)
 | [], i, h => by simp [firstHit, idx]
 | x :: l, i, h => by
   by_cases hm : a ∈ x.f1
   · have e : idx (fun x => decide (a ∈ x.f1)) (x :: l) i = i := by rw [idx, if_pos (decide_eq_true hm)]
     rw [firstHit, if_pos hm, e, if_neg (by omega)]
   · have e : idx (fun x => decide (a ∈ x.f1)) (x :: l) i = idx (fun x => decide (a ∈ x.f1)) l (i + 1) := by rw [idx, if_neg (by simpa using hm)]
     rw [firstHit, if_neg hm, e]
     exact firstHit_idx a l (i + 1) (by omega)
theorem idx_neg_one {α : Type} (p : α → Bool) : ∀ (l : List α) (i : Int), 0 ≤ i → (idx p l i = -1 ∨ i ≤ idx p l i)
 | [], i, h => .inl rfl
 | x :: l, i, h => by
   unfold idx
   split
   · exact .inr (Int.le_refl _)
   · have := idx_neg_one p l (i + 1) (by omega); omega
theorem reachP_inv {l0 l1 : List Int} {c : Bool} {r : Srch} (h : reachP l0 l1 c = some r) : ∃ r0, SInv l0 r0 ∧ r = fgt r0 := by
 unfold reachP reachM at h
 by_cases hg : goodB l0 l1 = true
 · rw [if_pos hg, search_eq (goodB_iff.1 hg)] at h
   obtain ⟨r0, h0, rfl⟩ := Option.map_eq_some_iff.1 h
   exact ⟨r0, sBfs_inv 3001 0 _ r0 (SInv.start (goodB_iff.1 hg)) h0, rfl⟩
 · rw [if_neg hg] at h; cases h
theorem impl_within_eq (a : Int) : impl_within.f a 0 60 = some (decide (0 ≤ a ∧ a ≤ 60)) := by
 unfold impl_within.f
 by_cases h0 : 0 ≤ a <;> by_cases h1 : a ≤ 60 <;> simp [h0, h1] <;> try omega
set_option maxHeartbeats 4000000 in
set_option maxRecDepth 100000 in
theorem impl_PlanToAmount.calls (k : Nat) (A0 : Option Addr) (c0 : Nat) (l0 : List Int) (A1 : Option Addr) (c1 : Nat) (l1 : List Int) (a : Int) (c : Bool) (r1 : List S56) (r2 : Bool) (w : World) (hr0 : Kd.C (Kd.int .i64) w A0 l0.length l0) (hc0 : l0.length ≤ c0) (hr1 : Kd.C (Kd.int .i64) w A1 l1.length l1) (hc1 : l1.length ≤ c1) (h : impl_PlanToAmount.f k l0 l1 a c = some (r1, r2)) :
 Calls Try.prog 20 #[.agg #[.slice A0 l0.length c0, .slice A1 l1.length c1], .int .i64 a, .bool c] w fun e w' => ∃ v0_ : Value, e = .returned (.tuple #[v0_, .bool r2]) ∧ Kd.R k56 56 w' w.heap.size (fun _ => True) v0_ r1 ∧ Below w.heap.size w w' := by
 have HC91 : Hid (∀ W, Below w.heap.size w W → Calls Try.prog 91 #[.agg #[.slice A0 l0.length c0, .slice A1 l1.length c1], .bool c, .int .i64 3000] W (ReachEnd W (reachP l0 l1 c))) := by
  intro W hW
  exact impl_reachOf.calls c A0 A1 c0 c1 l0 l1 W (Kd.C_below hr0 hW) hc0 (Kd.C_below hr1 hW) hc1
 have HC92 : Hid (∀ W, Calls Try.prog 92 #[.int .i64 a, .int .i64 0, .int .i64 60] W fun e w' => e = .returned (.bool (decide (0 ≤ a ∧ a ≤ 60))) ∧ Drawn0 W w') := by
  intro W
  exact impl_within.calls a 0 60 _ W (impl_within_eq a)
 have hres := Option.some.inj h
 have hu97 := Try.underlying97
 have hu33 := Try.underlying33
 clear h hr0 hr1
 have b1 := Aside0.mk (below_alloc (below_alloc (Below.refl w.heap.size w) (.cells #[.slice A0 l0.length c0, .slice A1 l1.length c1] 33)) (.cells #[.int .i64 a] 3))
 have HX := Aside0.mk (show ((w.alloc (.cells #[.slice A0 l0.length c0, .slice A1 l1.length c1] 33)).alloc (.cells #[.int .i64 a] 3)).cell? ⟨w.heap.size + 1, 0, none⟩ = some (.int .i64 a) by
  have h := blk_new (w.alloc (.cells #[.slice A0 l0.length c0, .slice A1 l1.length c1] 33)) (.cells #[.int .i64 a] 3)
  rw [show (w.alloc (.cells #[.slice A0 l0.length c0, .slice A1 l1.length c1] 33)).heap.size = w.heap.size + 1 by simp] at h
  exact blk_cell h 0)
 generalize hS : reachP l0 l1 c = S at hres HC91
 go_enter Try.func20, Try.ntmps20
 cases S with
 | none =>
   obtain ⟨rfl, rfl⟩ := Prod.mk.inj hres
   go_wp2_with (first | (go_at_call 91; (refine (HC91.out _ b1.out).mono ?_; rintro e w2 ⟨hb, rfl⟩; have HB2 := Aside0.mk (b1.out.trans (hb.mono b1.out.size)); clear hb)))
   refine bodyPost_ret (v := .tuple #[.slice none 0 0, .bool false]) (by simp [results, Try.results20, go_sem]) rfl ?_
   exact ⟨_, rfl, Kd.R_nil _ _ _ _ _, below_alloc HB2.out _⟩
 | some r =>
   obtain ⟨r0, hI, rfl⟩ := reachP_inv hS
   clear hS
   rw [show planP (some (fgt r0)) a = planP (some r0) a from planP_fgt (some r0) a] at hres
   have HINV := Aside0.mk hI
   clear hI
   have HE91 : Hid (∀ W e w', ReachEnd W (some (fgt r0)) e w' → Below W.heap.size W w' ∧ ∃ (Aa : Option Addr) (ca b : Nat) (Ad : Option Addr) (nd cd : Nat) (Af : Option Addr) (cf : Nat) (Am : Option Addr) (cm : Nat), e = .returned (.tuple #[.agg #[.slice Aa r0.all.length ca, .map (some b), .slice Ad nd cd, .slice Af r0.fr.length cf, .slice Am r0.ms.length cm], .bool true]) ∧
    Kd.C k33 w' Aa r0.all.length r0.all ∧ Kd.C (Kd.int .i64) w' Af r0.fr.length r0.fr ∧ Kd.C k56 w' Am r0.ms.length r0.ms) := fun W e w' h => h
   by_cases ha : 0 ≤ a ∧ a ≤ 60
   · rw [planP, if_pos ha, firstHit_idx a r0.all 0 (Int.le_refl _)] at hres
     rw [decide_eq_true ha] at HC92
     have HRES := Aside0.mk hres
     clear hres
     generalize hix : idx (fun x => decide (a ∈ x.f1)) r0.all 0 = ix at HRES
     have HIX := Aside0.mk hix
     clear hix
     go_upto_region 4 with (first | (go_at_call 91; (refine (HC91.out _ b1.out).mono ?_; intro e w2 hE; obtain ⟨hb, Aa, ca, b, Ad, nd, cd, Af, cf, Am, cm, rfl, hCa, hCf, hCm⟩ := HE91.out _ _ _ hE; clear hE; have hbx := pw_cell_below (below_alloc hb (.cells #[.slice Aa r0.all.length ca, .map (some b), .slice Ad nd cd, .slice Af r0.fr.length cf, .slice Am r0.ms.length cm] 97)) HX.out; have HXX := Aside0.mk hbx; have HB2 := Aside0.mk (below_alloc (b1.out.trans (hb.mono b1.out.size)) (.cells #[.slice Aa r0.all.length ca, .map (some b), .slice Ad nd cd, .slice Af r0.fr.length cf, .slice Am r0.ms.length cm] 97)); have HK8 := Aside0.mk (blk_new w2 (.cells #[.slice Aa r0.all.length ca, .map (some b), .slice Ad nd cd, .slice Af r0.fr.length cf, .slice Am r0.ms.length cm] 97)); have HCA := Aside0.mk (Kd.C_below hCa (below_alloc (Below.refl _ _) (.cells #[.slice Aa r0.all.length ca, .map (some b), .slice Ad nd cd, .slice Af r0.fr.length cf, .slice Am r0.ms.length cm] 97))); have HCF := Aside0.mk (Kd.C_below hCf (below_alloc (Below.refl _ _) (.cells #[.slice Aa r0.all.length ca, .map (some b), .slice Ad nd cd, .slice Af r0.fr.length cf, .slice Am r0.ms.length cm] 97))); have HCM := Aside0.mk (Kd.C_below hCm (below_alloc (Below.refl _ _) (.cells #[.slice Aa r0.all.length ca, .map (some b), .slice Ad nd cd, .slice Af r0.fr.length cf, .slice Am r0.ms.length cm] 97))); clear hCa hCf hCm hb)) | (go_at_call 92; (refine (HC92.out _).mono ?_; rintro e w3 ⟨rfl, hd⟩; have HB3 := Aside0.mk hd.below; clear hd)))
     clear hbx HC91 HC92 HE91 b1 HX
     have hk8 := blk_below HK8.out HB3.out
     have HK9 := Aside0.mk hk8
     have HC94 : Hid (Calls Try.prog 93 #[.slice Aa r0.all.length ca, .func (.func 94) #[] #[.pointer (some ⟨w.heap.size + 1, 0, none⟩)]] w3 fun e w' => e = .returned (.int .i64 ix) ∧ Below w3.heap.size w3 w') := by
      rw [← HIX.out]
      exact indexFunc_vs 94 _ (fun x => decide (a ∈ x.f1)) (enters_of Try.func94 (by kernel_rfl) rfl) Aa ca r0.all w3 (Kd.C_below HCA.out HB3.out) (by have := HINV.out.n2; omega)
       (fun W x B0 d0 B1 d1 hx hW h0 hC0 h1 hC1 => (measures_one _ a x B0 B1 d0 d1 W (by have h := (HINV.out.good x hx).2; have := h.len; have := h.n5; omega) h0 hC0 h1 hC1 (pw_cell_below hW (pw_cell_below HB3.out HXX.out))).mono fun e w' ⟨he, hb'⟩ => ⟨he, below_then hW hW.size hb'⟩)
     have hy0 := blk_cell hk8 0
     simp at hy0
     clear hk8
     have HBW := Aside0.mk (HB2.out.trans (HB3.out.mono HB2.out.size))
     have hixb : ix = -1 ∨ (0 ≤ ix ∧ ix < r0.all.length) := by
      rw [← HIX.out]
      have h := firstHit_idx a r0.all 0 (Int.le_refl _)
      by_cases hn : idx (fun x => decide (a ∈ x.f1)) r0.all 0 < 0
      · left
        have := idx_neg_one (fun x : S33 => decide (a ∈ x.f1)) r0.all 0 (Int.le_refl _)
        omega
      · right
        rw [if_neg hn] at h
        have := firstHit_bd h
        omega
     rcases hixb with rfl | ⟨hx0, hx1⟩
     · have hres2 := HRES.out
       rw [if_pos (by omega), hitP] at hres2
       obtain ⟨rfl, rfl⟩ := Prod.mk.inj hres2
       go_wp2_with (go_at_call 93; (refine HC94.out.mono ?_; rintro e w5 ⟨rfl, hb⟩; have HB5 := Aside0.mk (HBW.out.trans (hb.mono HBW.out.size)); clear hb))
       refine bodyPost_ret (v := .tuple #[.slice none 0 0, .bool false]) (by simp [results, Try.results20, go_sem]) rfl ?_
       exact ⟨_, rfl, Kd.R_nil _ _ _ _ _, HB5.out⟩
     · have hres2 := HRES.out
       rw [if_neg (by omega), hitP] at hres2
       obtain ⟨rfl, rfl⟩ := Prod.mk.inj hres2
       have HC96 : Hid (∀ W, Below w3.heap.size w3 W → Calls Try.prog 96 #[.agg #[.slice Aa r0.all.length ca, .map (some b), .slice Ad nd cd, .slice Af r0.fr.length cf, .slice Am r0.ms.length cm], .int .i64 ix] W fun e w' => ∃ v0 : Value, e = .returned v0 ∧ Kd.R k56 56 w' W.heap.size (fun _ => True) v0 (wayP r0.fr r0.ms r0.fr.length ix []) ∧ Below W.heap.size W w') := by
        intro W hW
        have hWB := HB3.out.trans (hW.mono HB3.out.size)
        exact impl_planTo.calls _ _ _ rfl rfl rfl Af Am cf cm r0.fr r0.ms ix W (Kd.C_below HCF.out hWB) (Kd.C_below HCM.out hWB) (by rw [HINV.out.l1, HINV.out.l2]) (by rw [HINV.out.l1]; have := HINV.out.n2; omega) hx0 (by rw [HINV.out.l1]; exact hx1) (fun j j0 j1 => HINV.out.frr j j0 (by rw [← HINV.out.l1]; exact j1))
       have hix1 : ¬ ix < 0 := by omega
       go_wp2_with (first | (go_at_call 93; (refine HC94.out.mono ?_; rintro e w5 ⟨rfl, hb⟩; have hk9 := blk_below HK9.out hb; have hz0 := blk_cell hk9 0; have hz1 := blk_cell hk9 1; have hz2 := blk_cell hk9 2; have hz3 := blk_cell hk9 3; have hz4 := blk_cell hk9 4; simp at hz0 hz1 hz2 hz3 hz4; have HB4 := Aside0.mk hb; have HB5 := Aside0.mk (HBW.out.trans (hb.mono HBW.out.size)); clear hb hk9)) | (go_at_call 96; (refine (HC96.out _ HB4.out).mono ?_; rintro e w6 ⟨v0, rfl, h0, h1⟩; obtain ⟨A7, c7, rfl⟩ := Kd.R_slice h0; have H0 := Aside0.mk (Kd.R_lower h0 HB5.out.size); have H1 := Aside0.mk (HB5.out.trans (h1.mono HB5.out.size)); clear h0 h1)))
       refine bodyPost_ret (v := .tuple #[.slice A7 _ c7, .bool true]) (by simp [results, Try.results20, go_sem]; rfl) rfl ?_
       exact ⟨_, rfl, H0.out, H1.out⟩
   · rw [planP, if_neg ha] at hres
     rw [decide_eq_false ha] at HC92
     obtain ⟨rfl, rfl⟩ := Prod.mk.inj hres
     go_wp2_with (first | (go_at_call 91; (refine (HC91.out _ b1.out).mono ?_; intro e w2 hE; obtain ⟨hb, Aa, ca, b, Ad, nd, cd, Af, cf, Am, cm, rfl, _⟩ := HE91.out _ _ _ hE; clear hE; have HB2 := Aside0.mk (below_alloc (b1.out.trans (hb.mono b1.out.size)) (.cells #[.slice Aa r0.all.length ca, .map (some b), .slice Ad nd cd, .slice Af r0.fr.length cf, .slice Am r0.ms.length cm] 97)); have hbx := pw_cell_below (below_alloc hb (.cells #[.slice Aa r0.all.length ca, .map (some b), .slice Ad nd cd, .slice Af r0.fr.length cf, .slice Am r0.ms.length cm] 97)) HX.out; clear hb)) | (go_at_call 92; (refine (HC92.out _).mono ?_; rintro e w3 ⟨rfl, hd⟩; have HB3 := Aside0.mk (HB2.out.trans (hd.below.mono HB2.out.size)); clear hd)))
     refine bodyPost_ret (v := .tuple #[.slice none 0 0, .bool false]) (by simp [results, Try.results20, go_sem]) rfl ?_
     exact ⟨_, rfl, Kd.R_nil _ _ _ _ _, HB3.out⟩
end Go.Proofs.Ytjllbahhkeglfaa.P
namespace Go.Proofs.Ytjllbahhkeglfaa.P
open Go.RowKit Go.Proofs.YtjllbahhkeglfaaW.PrintWords Go.Proofs.YtjllbahhkeglfaaW.PrintLast Go.Proofs.YtjllbahhkeglfaaW.PrintMore
theorem wayP_length (fr : List Int) (ms : List S56) : ∀ (n : Nat) (i : Int) (l : List S56), (wayP fr ms n i l).length ≤ l.length + n
 | 0, _, _ => by simp [wayP]
 | n + 1, i, l => by
   rw [wayP]
   split
   · have := wayP_length fr ms n (rd fr i) (rd_T56 ms i :: l); simp at this; omega
   · omega
theorem plan_length {k : Nat} {l0 l1 : List Int} {a : Int} {c : Bool} {P : List S56 × Bool} (h : spec_PlanToAmount.f k l0 l1 a c = some P) : P.1.length ≤ 4000 := by
 have h := Option.some.inj h
 by_cases hg : goodB l0 l1 = true
 · rw [if_pos hg] at h
   cases hs : sBfs l0 c 3001 0 (sStart l0 l1) with
   | none => rw [hs] at h; rw [← h]; simp [planP]
   | some r =>
     have I := sBfs_inv 3001 0 _ r (SInv.start (goodB_iff.1 hg)) hs
     rw [hs, planP] at h
     split at h
     · cases hf : firstHit a r.all 0 with
       | none => rw [hf] at h; rw [← h]; simp [hitP]
       | some i =>
         rw [hf] at h
         rw [← h]
         have := wayP_length r.fr r.ms r.fr.length i []
         have h1 := I.l1
         have h2 := I.n2
         simp [hitP] at this ⊢
         omega
     · rw [← h]; simp
 · rw [if_neg hg] at h; rw [← h]; simp
end Go.Proofs.Ytjllbahhkeglfaa.P
namespace Go.Proofs.Ytjllbahhkeglfaa.P
open Go.RowKit Go.Proofs.YtjllbahhkeglfaaW.PrintWords Go.Proofs.YtjllbahhkeglfaaW.PrintLast Go.Proofs.YtjllbahhkeglfaaW.PrintMore
set_option linter.unusedVariables false
set_option linter.unusedSimpArgs false
/-- A row tells of its own block alone. -/
def Tt {α : Type} (d : Kd α) (e : TypeId) (w0 w : World) (v : Value) (xs : List α) : Prop := Kd.R d e w w0.heap.size (fun k => some k = v.ownBlock) v xs
theorem Tt.mk {α : Type} {d : Kd α} {e base : Nat} {ok : Nat → Prop} {w0 w : World} {v : Value} {xs : List α} (hd : d.E = []) (h : Kd.R d e w base ok v xs) (hb : w0.heap.size ≤ base) : Tt d e w0 w v xs := Kd.R_lower (Kd.R_tight hd h) hb
theorem Tt.below {α : Type} {d : Kd α} {e : Nat} {w0 w w1 : World} {v : Value} {xs : List α} (h : Tt d e w0 w v xs) (hb : Below w.heap.size w w1) : Tt d e w0 w1 v xs := Kd.R_below h hb
theorem Tt.kept {α : Type} {d : Kd α} {e : Nat} {w0 w w1 : World} {v : Value} {xs : List α} {S : Nat → Prop} (h : Tt d e w0 w v xs) (hk : Kept w w1 S) (hn : ∀ k, v.ownBlock = some k → ¬ S k) : Tt d e w0 w1 v xs := Kd.R_kept h hk (fun k hk => hn k hk.symm)
theorem Tt.reads {α : Type} {d : Kd α} {e : Nat} {w0 w : World} {A : Option Addr} {n c : Nat} {xs : List α} (h : Tt d e w0 w (.slice A n c) xs) : n ≤ c ∧ Kd.C d w A xs.length xs := (Kd.R_reads' h).2
set_option maxHeartbeats 8000000 in
set_option maxRecDepth 100000 in
theorem laws_FnExactPlanToAmount.true_ (A0 : Option Addr) (c0 : Nat) (l0 : List Int) (A1 : Option Addr) (c1 : Nat) (l1 : List Int) (a : Int) (cl : Bool) (w : World) (hr0 : Kd.C (Kd.int .i64) w A0 l0.length l0) (hc0 : l0.length ≤ c0) (hr1 : Kd.C (Kd.int .i64) w A1 l1.length l1) (hc1 : l1.length ≤ c1) (hs : l0.length ≤ 9223372036854775807) (hh : l1.length ≤ 9223372036854775807) :
 Calls Try.prog 4 #[.agg #[.slice A0 l0.length c0, .slice A1 l1.length c1], .int .i64 a, .bool cl] w fun e w' => e = .returned (.bool true) ∧ Below w.heap.size w w' := by
 obtain ⟨t, hsz, ht⟩ := sz_vessels l0 l1 hs hh
 obtain ⟨⟨pl, q⟩, hP⟩ : ∃ P, ∀ k, spec_PlanToAmount.f k l0 l1 a cl = some P := ⟨_, fun _ => rfl⟩
 have hI : ∀ k, impl_PlanToAmount.f k l0 l1 a cl = some (pl, q) := fun k => (PlanToAmount_eq k l0 l1 a cl).trans (hP k)
 have hlen : pl.length ≤ 4000 := plan_length (hP 0)
 obtain ⟨mk, hmk, hhk⟩ := mark_held pl hlen
 obtain ⟨k1, hmk⟩ := hmk.rounds
 obtain ⟨k2, hhk⟩ := hhk.rounds
 obtain ⟨k3, heq⟩ := (eqMoveS_self pl hlen).rounds
 have hu30 := Try.underlying30
 have hu33 := Try.underlying33
 have hu23 := Try.underlying23
 have HC17 : Hid (∀ W, Below w.heap.size w W → Calls Try.prog 17 #[.agg #[.slice A0 l0.length c0, .slice A1 l1.length c1], .int .i64 1048576] W fun e w' => e = .returned (.int .i64 t) ∧ Below W.heap.size W w') := fun W hW => laws_szVessels.calls A0 c0 l0 A1 c1 l1 _ _ W (Kd.C_below hr0 hW) hc0 (Kd.C_below hr1 hW) hc1 hsz
 have b3 := below_alloc (Below.refl w.heap.size w) (.cells #[.slice A0 l0.length c0, .slice A1 l1.length c1] 30)
 have k3_ := blk_new w (.cells #[.slice A0 l0.length c0, .slice A1 l1.length c1] 30)
 have B3 := Aside0.mk b3
 have K3 := Aside0.mk k3_
 clear b3 k3_
 go_enter Try.func4, Try.ntmps4
 go_upto_region 3 with (go_at_call 17; refine (HC17.out _ B3.out).mono ?_; rintro e w1 ⟨rfl, hb⟩; have HB1 := Aside0.mk hb; clear hb)
 replace K3 := Aside0.mk (blk_below K3.out HB1.out)
 replace B3 := Aside0.mk (B3.out.trans (HB1.out.mono B3.out.size))
 clear HB1 HC17
 by_cases ht0 : t < 0
 · go_wp2_with fail
   go_ret
   exact ⟨rfl, B3.out⟩
 · obtain ⟨hs, hh⟩ := ht (by omega)
   obtain ⟨k4, hto⟩ := (to_vessels l0 l1 hs hh).rounds
   obtain ⟨k5, hev⟩ := (eq_vessels l0 l1 hs hh).rounds
   obtain ⟨rv, L0, L1, hrv, hmv⟩ := mark_vessels l0 l1 hs hh
   obtain ⟨k6, hmv⟩ := hmv.rounds
   have HC19 : Hid (∀ W, Below w.heap.size w W → Calls Try.prog 19 #[.agg #[.slice A0 l0.length c0, .slice A1 l1.length c1]] W fun e w' => ∃ (A4 : Option Addr) (c4 : Nat) (A5 : Option Addr) (c5 : Nat), e = .returned (.agg #[.slice A4 l0.length c4, .slice A5 l1.length c5]) ∧ Kd.R (Kd.int .i64) 3 w' W.heap.size (fun k_ => some k_ ≠ (Value.slice A5 l1.length c5).ownBlock) (.slice A4 l0.length c4) l0 ∧ Kd.R (Kd.int .i64) 3 w' W.heap.size (fun k_ => some k_ ≠ (Value.slice A4 l0.length c4).ownBlock) (.slice A5 l1.length c5) l1 ∧ Below W.heap.size W w') := by
    intro W hW
    refine (laws_toVessels.calls k4 A0 c0 l0 A1 c1 l1 _ _ W (Kd.C_below hr0 hW) hc0 (Kd.C_below hr1 hW) hc1 hto).mono ?_
    rintro e w' ⟨v0, v1, rfl, g0, g1, g2⟩
    obtain ⟨A4, c4, rfl⟩ := Kd.R_slice g0
    obtain ⟨A5, c5, rfl⟩ := Kd.R_slice g1
    exact ⟨_, _, _, _, rfl, g0, g1, g2⟩
   have HC18 : Hid (∀ (W : World) (B0 : Option Addr) (d0 : Nat) (B1 : Option Addr) (d1 : Nat), Kd.C (Kd.int .i64) W B0 l0.length l0 → l0.length ≤ d0 → Kd.C (Kd.int .i64) W B1 l1.length l1 → l1.length ≤ d1 → Calls Try.prog 18 #[.agg #[.slice B0 l0.length d0, .slice B1 l1.length d1], .int .i64 a, .bool cl] W fun e w' => ∃ (A : Option Addr) (c : Nat), e = .returned (.tuple #[.slice A pl.length c, .bool q]) ∧ Kd.R k56 56 w' W.heap.size (fun _ => True) (.slice A pl.length c) pl ∧ Below W.heap.size W w') := by
    intro W B0 d0 B1 d1 h0 h1 h2 h3
    refine (spec_PlanToAmount.calls 0 B0 d0 l0 B1 d1 l1 a cl _ _ W h0 h1 h2 h3 (hP 0)).mono ?_
    rintro e w' ⟨v0, rfl, g0, g2⟩
    obtain ⟨A, c, rfl⟩ := Kd.R_slice g0
    exact ⟨A, c, rfl, g0, g2⟩
   have HC20 : Hid (∀ (W : World) (B0 : Option Addr) (d0 : Nat) (B1 : Option Addr) (d1 : Nat), Kd.C (Kd.int .i64) W B0 l0.length l0 → l0.length ≤ d0 → Kd.C (Kd.int .i64) W B1 l1.length l1 → l1.length ≤ d1 → Calls Try.prog 20 #[.agg #[.slice B0 l0.length d0, .slice B1 l1.length d1], .int .i64 a, .bool cl] W fun e w' => ∃ (A : Option Addr) (c : Nat), e = .returned (.tuple #[.slice A pl.length c, .bool q]) ∧ Kd.R k56 56 w' W.heap.size (fun _ => True) (.slice A pl.length c) pl ∧ Below W.heap.size W w') := by
    intro W B0 d0 B1 d1 h0 h1 h2 h3
    refine (impl_PlanToAmount.calls 0 B0 d0 l0 B1 d1 l1 a cl _ _ W h0 h1 h2 h3 (hI 0)).mono ?_
    rintro e w' ⟨v0, rfl, g0, g2⟩
    obtain ⟨A, c, rfl⟩ := Kd.R_slice g0
    exact ⟨A, c, rfl, g0, g2⟩
   have HC14 : Hid (∀ (W : World) (B0 : Option Addr) (d0 : Nat) (B1 : Option Addr) (d1 : Nat), Kd.C k56 W B0 pl.length pl → pl.length ≤ d0 → Kd.C k56 W B1 pl.length pl → pl.length ≤ d1 → Calls Try.prog 14 #[.slice B0 pl.length d0, .slice B1 pl.length d1] W fun e w' => e = .returned (.bool true) ∧ Below W.heap.size W w') := fun W B0 d0 B1 d1 h0 h1 h2 h3 => laws_eqMoveS.calls k3 B0 d0 pl B1 d1 pl _ W h0 h1 h2 h3 heq
   have HMV := Aside0.mk hmv
   have HMK := Aside0.mk hmk
   have HHK := Aside0.mk hhk
   have HEV := Aside0.mk hev
   have HLEN := Lib.hid hlen
   have HTO := Aside0.mk hto
   have HS := Lib.hid hs
   have HH := Lib.hid hh
   clear hsz ht hP hI hmk hhk heq hto hev hmv hr0 hc0 hr1 hc1 hs hh hlen
   have hq : (q != q) = false := by simp
   -- the reference's plan
   have h30 := blk_cell K3.out 0
   have h31 := blk_cell K3.out 1
   simp at h30 h31
   go_upto_region 6 with (first
    | (go_at_call 19; refine (HC19.out _ B3.out).mono ?_; rintro e w2 ⟨A4, c4, A5, c5, rfl, g0, g1, hb⟩; have HX0 := Aside0.mk (Kd.R_reads' g0).2; have HX1 := Aside0.mk (Kd.R_reads' g1).2; have HB2 := Aside0.mk hb; clear g0 g1 hb)
    | (go_at_call 18; refine (HC18.out _ _ _ _ _ HX0.out.2 HX0.out.1 HX1.out.2 HX1.out.1).mono ?_; rintro e w3 ⟨A8, c8, rfl, g0, hb⟩; have HV8 := Aside0.mk g0; have HB3 := Aside0.mk hb; clear g0 hb))
   have hb3 := HB2.out.trans (HB3.out.mono HB2.out.size)
   replace K3 := Aside0.mk (blk_below K3.out hb3)
   have HW3 := Lib.hid (blk_lt K3.out)
   have b2 := B3.out.trans (HB2.out.mono B3.out.size)
   replace B3 := Aside0.mk (b2.trans (HB3.out.mono b2.size))
   have O8 := Lib.hid (Kd.R_lt HV8.out)
   replace HV8 := Aside0.mk (Tt.mk (w0 := w) rfl HV8.out b2.size)
   clear hb3 b2 HX0 HX1 HB2 HB3 h30 h31
   -- the program's vessels
   have h30 := blk_cell K3.out 0
   have h31 := blk_cell K3.out 1
   simp at h30 h31
   go_upto_region 7 with (go_at_call 19; refine (HC19.out _ B3.out).mono ?_; rintro e w4 ⟨A4, c4, A5, c5, rfl, g0, g1, hb⟩; have HX0 := Aside0.mk g0; have HX1 := Aside0.mk g1; have HB4 := Aside0.mk hb; clear g0 g1 hb)
   clear h30 h31
   have OX0 := Lib.hid (fun k hk => (⟨Kd.R_base HX0.out k hk, Kd.R_lt HX0.out k hk⟩ : w3.heap.size ≤ k ∧ k < w4.heap.size))
   have OX1 := Lib.hid (fun k hk => (⟨Kd.R_base HX1.out k hk, Kd.R_lt HX1.out k hk⟩ : w3.heap.size ≤ k ∧ k < w4.heap.size))
   have OXX := Lib.hid (fun k (hk : (Value.slice A4 l0.length c4).ownBlock = some k) => (Kd.R_tight2 (d := Kd.int .i64) rfl HX0.out).1 k hk)
   replace K3 := Aside0.mk (blk_alloc (blk_below K3.out HB4.out) (.cells #[.slice A4 l0.length c4, .slice A5 l1.length c5] 33))
   have HX0 := Aside0.mk (Tt.below (Tt.mk (w0 := w) rfl HX0.out B3.out.size) (below_alloc (Below.refl _ _) (.cells #[.slice A4 l0.length c4, .slice A5 l1.length c5] 33)))
   have HX1 := Aside0.mk (Tt.below (Tt.mk (w0 := w) rfl HX1.out B3.out.size) (below_alloc (Below.refl _ _) (.cells #[.slice A4 l0.length c4, .slice A5 l1.length c5] 33)))
   replace HV8 := Aside0.mk (HV8.out.below (below_alloc HB4.out (.cells #[.slice A4 l0.length c4, .slice A5 l1.length c5] 33)))
   have K10 := Aside0.mk (blk_new w4 (.cells #[.slice A4 l0.length c4, .slice A5 l1.length c5] 33))
   replace B3 := Aside0.mk (below_alloc (B3.out.trans (HB4.out.mono B3.out.size)) (.cells #[.slice A4 l0.length c4, .slice A5 l1.length c5] 33))
   have hn3 : w3.heap.size ≤ w4.heap.size := HB4.out.size
   have hn5 : (w4.alloc (.cells #[.slice A4 l0.length c4, .slice A5 l1.length c5] 33)).heap.size = w4.heap.size + 1 := by simp
   generalize w4.alloc (.cells #[.slice A4 l0.length c4, .slice A5 l1.length c5] 33) = W5 at HX0 HX1 HV8 K3 K10 B3 hn5 ⊢
   have HN3 := Lib.hid hn3
   have HN5 := Lib.hid hn5
   generalize w4.heap.size = n4 at *
   clear hn3 hn5 HB4
   have h100 := blk_cell K10.out 0
   have h101 := blk_cell K10.out 1
   simp at h100 h101
   -- the program's plan
   go_upto_region 8 with (go_at_call 20; refine (HC20.out _ _ _ _ _ HX0.out.reads.2 HX0.out.reads.1 HX1.out.reads.2 HX1.out.reads.1).mono ?_; rintro e w6 ⟨A11, c11, rfl, g0, hb⟩; have HV11 := Aside0.mk g0; have HB6 := Aside0.mk hb; clear g0 hb)
   clear h100 h101
   have O11 := Lib.hid (fun k hk => (⟨Kd.R_base HV11.out k hk, Kd.R_lt HV11.out k hk⟩ : W5.heap.size ≤ k ∧ k < w6.heap.size))
   replace HV11 := Aside0.mk (Tt.mk (w0 := w) rfl HV11.out B3.out.size)
   replace HV8 := Aside0.mk (HV8.out.below HB6.out)
   replace HX0 := Aside0.mk (HX0.out.below HB6.out)
   replace HX1 := Aside0.mk (HX1.out.below HB6.out)
   replace K3 := Aside0.mk (blk_below K3.out HB6.out)
   replace K10 := Aside0.mk (blk_below K10.out HB6.out)
   replace B3 := Aside0.mk (B3.out.trans (HB6.out.mono B3.out.size))
   clear HB6
   go_upto_region 10 with (go_at_call 14; refine (HC14.out _ _ _ _ _ HV11.out.reads.2 HV11.out.reads.1 HV8.out.reads.2 HV8.out.reads.1).mono ?_; rintro e w7 ⟨rfl, hb⟩; have HB7 := Aside0.mk hb; clear hb)
   replace HV8 := Aside0.mk (HV8.out.below HB7.out)
   replace HV11 := Aside0.mk (HV11.out.below HB7.out)
   replace HX0 := Aside0.mk (HX0.out.below HB7.out)
   replace HX1 := Aside0.mk (HX1.out.below HB7.out)
   replace K3 := Aside0.mk (blk_below K3.out HB7.out)
   replace K10 := Aside0.mk (blk_below K10.out HB7.out)
   replace B3 := Aside0.mk (B3.out.trans (HB7.out.mono B3.out.size))
   replace O11 := Lib.hid (fun k hk => (⟨by have := (O11.out k hk).1; have := HN5.out; omega, Nat.lt_of_lt_of_le (O11.out k hk).2 HB7.out.size⟩ : n4 < k ∧ k < w7.heap.size))
   clear HB7 HN5
   have h100 := blk_cell K10.out 0
   have h101 := blk_cell K10.out 1
   have h30 := blk_cell K3.out 0
   have h31 := blk_cell K3.out 1
   simp at h100 h101 h30 h31
   have HD : Hid (∀ W, Below w7.heap.size w7 W → W.cell? ⟨n4, 0, none⟩ = some (.slice A4 l0.length c4) ∧ W.cell? ⟨n4, 1, none⟩ = some (.slice A5 l1.length c5) ∧ W.cell? ⟨w.heap.size, 0, none⟩ = some (.slice A0 l0.length c0) ∧ W.cell? ⟨w.heap.size, 1, none⟩ = some (.slice A1 l1.length c1)) := fun W hW => ⟨pw_cell_below hW h100, pw_cell_below hW h101, pw_cell_below hW h30, pw_cell_below hW h31⟩
   have HC21 : Hid (∀ (W : World) (B0 : Option Addr) (d0 : Nat) (B1 : Option Addr) (d1 : Nat), Below w7.heap.size w7 W → Kd.C (Kd.int .i64) W B0 l0.length l0 → l0.length ≤ d0 → Kd.C (Kd.int .i64) W B1 l1.length l1 → l1.length ≤ d1 → Calls Try.prog 21 #[.agg #[.slice A4 l0.length c4, .slice A5 l1.length c5], .agg #[.slice B0 l0.length d0, .slice B1 l1.length d1]] W fun e w' => e = .returned (.bool true) ∧ Below W.heap.size W w' ∧ Below w7.heap.size w7 w') := by
    intro W B0 d0 B1 d1 hW g0 g1 g2 g3
    refine (laws_eqVessels.calls k5 A4 c4 l0 A5 c5 l1 B0 d0 l0 B1 d1 l1 _ W (HX0.out.below hW).reads.2 (HX0.out.below hW).reads.1 (HX1.out.below hW).reads.2 (HX1.out.below hW).reads.1 g0 g1 g2 g3 HEV.out).mono ?_
    rintro e w' ⟨he, hb⟩
    exact ⟨he, hb, below_step hW hb⟩
   go_region_held3 (fun w' => w'.cell? ⟨n4, 0, none⟩ = some (.slice A4 l0.length c4) ∧ w'.cell? ⟨n4, 1, none⟩ = some (.slice A5 l1.length c5) ∧ w'.cell? ⟨w.heap.size, 0, none⟩ = some (.slice A0 l0.length c0) ∧ w'.cell? ⟨w.heap.size, 1, none⟩ = some (.slice A1 l1.length c1))
    (first | exact ⟨h100, h101, h30, h31⟩ | exact HD.out _ HBX.out | go_keep)
    (first
      | (go_at_call 19; refine (HC19.out _ (below_drew B3.out)).mono ?_; rintro e w8 ⟨B4, d4, B5, d5, rfl, g0, g1, hb⟩; have HY0 := Aside0.mk (Kd.R_reads' g0).2; have HY1 := Aside0.mk (Kd.R_reads' g1).2; have HBX := Aside0.mk (below_step (below_drew (Below.refl w7.heap.size w7)) hb); clear g0 g1 hb)
      | (go_at_call 21; refine (HC21.out _ _ _ _ _ HBX.out HY0.out.2 HY0.out.1 HY1.out.2 HY1.out.1).mono ?_; rintro e w9 ⟨rfl, hb, hbx⟩; clear HY0 HY1 HBX; have HBX := Aside0.mk hbx; clear hb hbx))
   go_upto_region 13 with fail
   replace HV8 := Aside0.mk (HV8.out.below HBX.out)
   replace HV11 := Aside0.mk (HV11.out.below HBX.out)
   replace K3 := Aside0.mk (blk_below K3.out HBX.out)
   replace B3 := Aside0.mk (B3.out.trans (HBX.out.mono B3.out.size))
   replace HX0 := Aside0.mk (HX0.out.below HBX.out)
   replace HX1 := Aside0.mk (HX1.out.below HBX.out)
   replace K10 := Aside0.mk (blk_below K10.out HBX.out)
   clear HBX HD HC21 h100 h101 h30 h31
   have h100 := blk_cell K10.out 0
   have h101 := blk_cell K10.out 1
   simp at h100 h101
   have hrv0 : ¬ rv < 0 := by omega
   clear hrv
   -- marks in the program's vessels
   go_upto_region 14 with (go_at_call 22; refine (laws_markVessels.calls k6 (fun k => some k = (Value.slice A4 l0.length c4).ownBlock) (.slice A4 l0.length c4) l0 (fun k => some k = (Value.slice A5 l1.length c5).ownBlock) (.slice A5 l1.length c5) l1 1 rv L0 L1 w _ B3.out HX0.out (fun k h1 h2 => (OXX.out k h1.symm).2 h2) HX1.out (fun k h1 h2 => (OXX.out k h2.symm).2 h1) HMV.out).mono ?_; rintro e w10 ⟨rfl, _, _, hB, hk⟩; have HBM := Aside0.mk hB; have HKM := Aside0.mk hk; clear hB hk)
   replace HV8 := Aside0.mk (HV8.out.kept HKM.out (fun k hk h => by have h8 := O8.out k hk; rcases h with h | h; (have := (OX0.out k h.symm).1; omega); (have := (OX1.out k h.symm).1; omega)))
   replace HV11 := Aside0.mk (HV11.out.kept HKM.out (fun k hk h => by have h8 := (O11.out k hk).1; rcases h with h | h; (have := (OX0.out k h.symm).2; omega); (have := (OX1.out k h.symm).2; omega)))
   replace K3 := Aside0.mk (blk_kept K3.out HKM.out (fun h => by have h8 := HW3.out; rcases h with h | h; (have := (OX0.out _ h.symm).1; omega); (have := (OX1.out _ h.symm).1; omega)))
   replace B3 := HBM
   clear HBM HKM HX0 HX1 K10 h100 h101 OXX HMV
   go_upto_region 16 with (go_at_call 14; refine (HC14.out _ _ _ _ _ HV11.out.reads.2 HV11.out.reads.1 HV8.out.reads.2 HV8.out.reads.1).mono ?_; rintro e w11 ⟨rfl, hb⟩; have HB7 := Aside0.mk hb; clear hb)
   replace HV8 := Aside0.mk (HV8.out.below HB7.out)
   replace HV11 := Aside0.mk (HV11.out.below HB7.out)
   replace K3 := Aside0.mk (blk_below K3.out HB7.out)
   replace B3 := Aside0.mk (B3.out.trans (HB7.out.mono B3.out.size))
   clear HB7
   -- marks in the program's plan
   go_upto_region 18 with (go_at_call 15; refine (laws_markMoveS.calls k1 (fun k => some k = (Value.slice A11 pl.length c11).ownBlock) (.slice A11 pl.length c11) pl 1 _ mk w _ B3.out HV11.out HMK.out).mono ?_; rintro e w12 ⟨rfl, hR, hB, hk⟩; have HR := Aside0.mk hR; have HBM := Aside0.mk hB; have HKM := Aside0.mk hk; clear hR hB hk)
   replace HV8 := Aside0.mk (HV8.out.kept HKM.out (fun k hk h => by have h8 := O8.out k hk; have := (O11.out k h.symm).1; have := HN3.out; omega))
   replace K3 := Aside0.mk (blk_kept K3.out HKM.out (fun h => by have h8 := HW3.out; have := (O11.out _ h.symm).1; have := HN3.out; omega))
   replace HV11 : Aside0 (Tt k56 56 w w12 (.slice A11 pl.length c11) mk) := Aside0.mk (Tt.mk rfl HR.out (Nat.le_refl _))
   replace B3 := HBM
   clear HR HBM HKM HMK
   have HC16 : Hid (∀ (W : World), Tt k56 56 w W (.slice A11 pl.length c11) mk → Calls Try.prog 16 #[.slice A11 pl.length c11, .int .i64 1] W fun e w' => e = .returned (.int .i64 (1 + 2 * (pl.length : Int))) ∧ Below W.heap.size W w') := by
    intro W h
    have e := (Kd.R_reads' h).1
    have hc := laws_heldMoveS.calls k2 A11 c11 mk 1 _ W h.reads.2 (e ▸ h.reads.1) HHK.out
    rw [← e] at hc
    exact hc.mono fun e w' ⟨h1, h2⟩ => ⟨h1, h2.below⟩
   have hpos : ¬ (1 + 2 * (pl.length : Int)) < 0 := by omega
   go_upto_region 24 with (go_at_call 16; refine (HC16.out _ HV11.out).mono ?_; rintro e w13 ⟨rfl, hb⟩; have HB7 := Aside0.mk hb; clear hb)
   replace HV8 := Aside0.mk (HV8.out.below HB7.out)
   replace HV11 := Aside0.mk (HV11.out.below HB7.out)
   replace K3 := Aside0.mk (blk_below K3.out HB7.out)
   replace B3 := Aside0.mk (B3.out.trans (HB7.out.mono B3.out.size))
   clear HB7
   have h30 := blk_cell K3.out 0
   have h31 := blk_cell K3.out 1
   simp at h30 h31
   go_upto_region 25 with (first
    | (go_at_call 19; refine (HC19.out _ B3.out).mono ?_; rintro e w14 ⟨B4, d4, B5, d5, rfl, g0, g1, hb⟩; have HX0 := Aside0.mk (Kd.R_reads' g0).2; have HX1 := Aside0.mk (Kd.R_reads' g1).2; have HB2 := Aside0.mk hb; clear g0 g1 hb)
    | (go_at_call 20; refine (HC20.out _ _ _ _ _ HX0.out.2 HX0.out.1 HX1.out.2 HX1.out.1).mono ?_; rintro e w15 ⟨A16, c16, rfl, g0, hb⟩; have HV16 := Aside0.mk g0; have HB3 := Aside0.mk hb; clear g0 hb))
   have hb3 := HB2.out.trans (HB3.out.mono HB2.out.size)
   replace HV8 := Aside0.mk (HV8.out.below hb3)
   replace HV11 := Aside0.mk (HV11.out.below hb3)
   replace K3 := Aside0.mk (blk_below K3.out hb3)
   replace B3 := Aside0.mk (B3.out.trans (hb3.mono B3.out.size))
   clear HB2 HB3 hb3 h30 h31 HX0 HX1
   go_upto_region 27 with (go_at_call 14; refine (HC14.out _ _ _ _ _ (Kd.R_reads' HV16.out).2.2 (Kd.R_reads' HV16.out).2.1 HV8.out.reads.2 HV8.out.reads.1).mono ?_; rintro e w16 ⟨rfl, hb⟩; have HB7 := Aside0.mk hb; clear hb)
   replace HV8 := Aside0.mk (HV8.out.below HB7.out)
   replace HV11 := Aside0.mk (HV11.out.below HB7.out)
   replace K3 := Aside0.mk (blk_below K3.out HB7.out)
   replace B3 := Aside0.mk (B3.out.trans (HB7.out.mono B3.out.size))
   clear HB7 HV16
   go_wp2_with (go_at_call 16; refine (HC16.out _ HV11.out).mono ?_; rintro e w17 ⟨rfl, hb⟩; have HB7 := Aside0.mk (B3.out.trans (hb.mono B3.out.size)); clear hb)
   go_ret
   exact ⟨rfl, HB7.out⟩
end Go.Proofs.Ytjllbahhkeglfaa.P
