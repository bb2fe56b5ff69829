/- The program's AmountsOf and SumsOf return what the reference's return, for all arguments (part 4 of its texts). No conditions. -/
import Derived.Test.YtjllbahhkeglfaaProg
import Derived.Lib.Hide
import Derived.Shelf.Sort.Plain
import Derived.Shelf.Slices.CompactI
import Derived.Ground.NamesProg
import Derived.Ground.Names2Prog
import Derived.Sort.OwnSortedInts
import Derived.Sort.Grow
import Derived.Lib.OwnBridge
import Derived.Deep.RegionLaw
import Derived.Lib.LazyBuf
import Derived.Shelf.Abstract
import Derived.Laws.CopyOwn
import Derived.WideKeyPair
import Derived.Maps.OwnSet
import Derived.Maps.Views
import Derived.Below
import Derived.Deep.Draws
import Derived.Deep.AppendLies
import Derived.Maps.AppendAt
import Derived.OwnWalk
import Derived.Laws.BytesArg
import Derived.Laws.MakeOwn
import Derived.Laws.OwnMore
import Derived.Deep.OwnRows
import Derived.Tactics
import Derived.Lib.ConvBytes
import Derived.Laws.Slices
import Derived.WalkKit
import Derived.KernelRfl
import Derived.RowKit3
import Derived.Deep.LoopGhost
import Derived.Deep.QuietTactic
import Derived.BigQuiet
import Derived.WideLaws
import Derived.Deep.DeepCutAuto
import Derived.Deep.CutBlock
import Derived.Deep.RegionHeld3
import Derived.Laws.Rows
import Derived.Lib.AppendStr
import Derived.ArgAppend
import Derived.Laws.IdiomCopy
import Derived.OrdersHeld
import Derived.Laws.BitsLemmas
import Derived.RowKit
import Derived.OpenShut
import Derived.ShutString
import Derived.ChangeOld
import Derived.SizedLaws
import Derived.Lib.SmallJoins
import Derived.Test.YtjllbahhkeglfaaWWords
import Derived.Test.YtjllbahhkeglfaaWLast
import Derived.Test.YtjllbahhkeglfaaWTab
import Derived.Test.YtjllbahhkeglfaaWQPut
import Derived.Test.YtjllbahhkeglfaaWApart
import Derived.Test.YtjllbahhkeglfaaWArr
import Derived.Test.YtjllbahhkeglfaaWZeros
import Derived.Test.YtjllbahhkeglfaaWFoot
import Derived.Test.YtjllbahhkeglfaaWKept
import Derived.Test.YtjllbahhkeglfaaWShare
import Derived.Test.YtjllbahhkeglfaaWN
import Derived.Test.YtjllbahhkeglfaaWFootNe
import Derived.Test.YtjllbahhkeglfaaWRepsOne
import Derived.Test.YtjllbahhkeglfaaWInv
import Derived.Test.YtjllbahhkeglfaaWInvWords
import Derived.Test.YtjllbahhkeglfaaWGuard
import Derived.Test.YtjllbahhkeglfaaWNEv
import Derived.Test.YtjllbahhkeglfaaWMore
import Derived.Test.YtjllbahhkeglfaaAs3
import Derived.Test.YtjllbahhkeglfaaAs2
import Derived.Test.YtjllbahhkeglfaaAs1
namespace Go.Proofs.Ytjllbahhkeglfaa.P
open Go.RowKit Go.Proofs.YtjllbahhkeglfaaW.PrintWords Go.Proofs.YtjllbahhkeglfaaW.PrintLast Go.Proofs.YtjllbahhkeglfaaW.PrintMore
set_option linter.unusedVariables false
set_option linter.unusedSimpArgs false
def mkd (N : Nat) (L : List Int) : List Bool := (List.range N).map (fun (i : Nat) => decide ((i : Int) ∈ L))
def numTo (L : List Int) (n : Nat) : List Int := ((List.range n).filter (fun (i : Nat) => decide ((i : Int) ∈ L))).map (fun (i : Nat) => (i : Int))
theorem mkd_length (N : Nat) (L : List Int) : (mkd N L).length = N := by simp [mkd]
theorem mkd_nil (N : Nat) : mkd N [] = List.replicate N false := by
 apply List.ext_getElem
 · simp [mkd]
 · intro i h1 h2
   simp [mkd]
theorem mkd_set {N : Nat} {L : List Int} {x : Int} (h0 : 0 ≤ x) (h1 : x < N) : (mkd N L).set x.toNat true = mkd N (L ++ [x]) := by
 apply List.ext_getElem
 · simp [mkd]
 · intro i h2 h3
   have hi : i < N := by simpa [mkd] using h3
   rw [List.getElem_set]
   simp only [mkd, List.getElem_map, List.getElem_range, List.mem_append, List.mem_singleton]
   by_cases e : x.toNat = i
   · rw [if_pos e]
     have : (i : Int) = x := by omega
     simp [this]
   · rw [if_neg e]
     have : ¬ (i : Int) = x := by omega
     simp [this]
theorem rdOf_mkd {N : Nat} {L : List Int} {i : Nat} (h : i < N) : rdOf false (mkd N L) (i : Int) = decide ((i : Int) ∈ L) := by
 simp [rdOf, mkd, List.getD_eq_getElem?_getD, List.getElem?_map, List.getElem?_range h]
theorem numTo_len (L : List Int) (n : Nat) : (numTo L n).length ≤ n := by
 unfold numTo
 rw [List.length_map]
 exact Nat.le_trans (List.length_filter_le _ _) (by simp)
theorem numTo_succ (L : List Int) (n : Nat) : numTo L (n + 1) = numTo L n ++ if (n : Int) ∈ L then [(n : Int)] else [] := by
 unfold numTo
 rw [List.range_succ, List.filter_append, List.map_append]
 congr 1
 by_cases h : (n : Int) ∈ L <;> simp [h]
theorem plNumbers_l0 (N : Nat) (hN : N ≤ 100000) (L : List Int) : ∀ (d : Nat) (i : Nat), i + d = N → Ev (fun k => spec_plNumbers.l0 k (numTo L i) (mkd N L) (N : Int) (i : Int)) (numTo L N)
 | 0, i, h => by
   refine Ev.step (f := fun _ => some (numTo L N)) (fun k => ?_) (Ev.now _)
   show spec_plNumbers.l0 (k + 1) _ _ _ _ = _
   have : i = N := by omega
   subst this
   rw [spec_plNumbers.l0, if_neg (by omega)]
 | d + 1, i, h => by
   refine Ev.step (fun k => ?_) (plNumbers_l0 N hN L d (i + 1) (by omega))
   show spec_plNumbers.l0 (k + 1) _ _ _ _ = _
   have hl := numTo_len L i
   rw [spec_plNumbers.l0, if_pos (by omega), if_pos (by omega), if_pos (by rw [mkd_length]; omega), rdOf_mkd (by omega), numTo_succ, w64 (by omega) (by omega)]
   by_cases hm : (i : Int) ∈ L
   · rw [if_pos (decide_eq_true hm), if_pos (by omega), if_pos hm]; rfl
   · rw [if_neg (by simpa using hm), if_neg hm, List.append_nil]; rfl
theorem plNumbers_ev (N : Nat) (hN : N ≤ 100000) (L : List Int) : Ev (fun k => spec_plNumbers.f k (mkd N L)) (numTo L N) := by
 have h := plNumbers_l0 N hN L N 0 (by omega)
 refine Ev.congr (fun k => ?_) h
 show spec_plNumbers.f k (mkd N L) = _
 rw [spec_plNumbers.f, mkd_length]; rfl
theorem lt_ext : ∀ {l m : List Int}, l.Pairwise (· < ·) → m.Pairwise (· < ·) → (∀ x, x ∈ l ↔ x ∈ m) → l = m
 | [], [], _, _, _ => rfl
 | [], y :: m, _, _, h => absurd ((h y).2 (List.mem_cons_self ..)) (by simp)
 | x :: l, [], _, _, h => absurd ((h x).1 (List.mem_cons_self ..)) (by simp)
 | x :: l, y :: m, hl, hm, h => by
   rw [List.pairwise_cons] at hl hm
   have e : x = y := by
    rcases List.mem_cons.1 ((h x).1 (List.mem_cons_self ..)) with e | hx
    · exact e
    · rcases List.mem_cons.1 ((h y).2 (List.mem_cons_self ..)) with e | hy
      · exact e.symm
      · have := hm.1 x hx; have := hl.1 y hy; omega
   subst e
   have := lt_ext hl.2 hm.2 (fun z => by
    have hz := h z
    simp only [List.mem_cons] at hz
    constructor
    · intro hzl
      rcases hz.1 (.inr hzl) with rfl | h2
      · exact absurd (hl.1 z hzl) (by omega)
      · exact h2
    · intro hzm
      rcases hz.2 (.inr hzm) with rfl | h2
      · exact absurd (hm.1 z hzm) (by omega)
      · exact h2)
   rw [this]
theorem numTo_lt (L : List Int) (n : Nat) : (numTo L n).Pairwise (· < ·) := by
 unfold numTo
 rw [List.pairwise_map]
 exact (List.Pairwise.filter _ (List.pairwise_lt_range)).imp (fun h => by omega)
theorem mem_numTo {L : List Int} {n : Nat} {x : Int} : x ∈ numTo L n ↔ (0 ≤ x ∧ x < n ∧ x ∈ L) := by
 unfold numTo
 simp only [List.mem_map, List.mem_filter, List.mem_range, decide_eq_true_eq]
 constructor
 · rintro ⟨i, ⟨h1, h2⟩, rfl⟩
   exact ⟨by omega, by omega, h2⟩
 · rintro ⟨h0, h1, h2⟩
   exact ⟨x.toNat, ⟨by omega, by rwa [show ((x.toNat : Nat) : Int) = x by omega]⟩, by omega⟩
theorem bang_eq {l : List Int} {i : Nat} (h : i < l.length) : l.toArray[i]! = l[i] := by
 rw [getElem!_pos l.toArray i (by simpa using h)]; simp
theorem mem_compact {l : List Int} {x : Int} : x ∈ Lib.compact l ↔ x ∈ l := by
 unfold Lib.compact Lib.compactUpTo
 simp only [List.mem_map, List.mem_filter, List.mem_range]
 constructor
 · rintro ⟨i, ⟨h1, _⟩, rfl⟩
   rw [bang_eq h1]
   exact List.getElem_mem _
 · intro hx
   obtain ⟨i, hi, rfl⟩ := List.getElem_of_mem hx
   have key : ∀ i (hi : i < l.length), ∃ a, (a < l.length ∧ Lib.keeps l.toArray a = true) ∧ l.toArray[a]! = l[i] := by
    intro i
    induction i with
    | zero => exact fun hi => ⟨0, ⟨hi, by simp [Lib.keeps]⟩, bang_eq hi⟩
    | succ i ih =>
      intro hi
      by_cases hk : Lib.keeps l.toArray (i + 1) = true
      · exact ⟨i + 1, ⟨hi, hk⟩, bang_eq hi⟩
      · obtain ⟨a, h1, h2⟩ := ih (by omega)
        refine ⟨a, h1, h2.trans ?_⟩
        have : l.toArray[i + 1]! = l.toArray[i]! := by
         by_cases e : l.toArray[i + 1]! = l.toArray[i]!
         · exact e
         · exact absurd (Lib.keeps_pos (m := i + 1) e) hk
        rw [bang_eq hi, bang_eq (by omega : i < l.length)] at this
        exact this.symm
   exact key i hi
theorem compact_lt {l : List Int} (hs : l.Pairwise (· ≤ ·)) : (Lib.compact l).Pairwise (· < ·) := by
 unfold Lib.compact Lib.compactUpTo
 rw [List.pairwise_map, List.pairwise_filter]
 have hr : (List.range l.length).Pairwise (fun i j => i < j ∧ j < l.length) := by
  have h := List.pairwise_lt_range (n := l.length)
  exact h.imp_of_mem (fun {a b} ha hb hab => ⟨hab, List.mem_range.1 hb⟩)
 refine hr.imp (fun {i j} h hi hj => ?_)
 obtain ⟨hij, hjl⟩ := h
 have hne : l.toArray[j]! ≠ l.toArray[j - 1]! := by
  have : ¬ j = 0 := by omega
  simpa [Lib.keeps, this] using hj
 have hle := List.pairwise_iff_getElem.1 hs
 rw [bang_eq hjl, bang_eq (by omega : j - 1 < l.length)] at hne
 rw [bang_eq (by omega : i < l.length), bang_eq hjl]
 have h1 : l[j - 1] ≤ l[j] := hle (j - 1) j (by omega) hjl (by omega)
 have h2 : l[i] ≤ l[j - 1] := by
  by_cases e : i = j - 1
  · subst e; exact Int.le_refl _
  · exact hle i (j - 1) (by omega) (by omega) (by omega)
 omega
/-- The program's list is the reference's. -/
theorem inc_eq {N : Nat} {L : List Int} (h : ∀ x ∈ L, 0 ≤ x ∧ x < N) : incP L = numTo L N := by
 unfold incP
 refine lt_ext (compact_lt ?_) (numTo_lt L N) (fun x => ?_)
 · have := List.pairwise_mergeSort (le := fun (x y : Int) => decide (x ≤ y)) (fun a b c h1 h2 => by simp at *; omega) (fun a b => by simp; omega) L
   exact this.imp (fun h => by simpa using h)
 · rw [mem_compact, List.mem_mergeSort, mem_numTo]
   exact ⟨fun hx => ⟨(h x hx).1, (h x hx).2, hx⟩, fun hx => hx.2.2⟩
end Go.Proofs.Ytjllbahhkeglfaa.P
namespace Go.Proofs.Ytjllbahhkeglfaa.P
open Go.RowKit Go.Proofs.YtjllbahhkeglfaaW.PrintWords Go.Proofs.YtjllbahhkeglfaaW.PrintLast Go.Proofs.YtjllbahhkeglfaaW.PrintMore
set_option linter.unusedVariables false
set_option linter.unusedSimpArgs false
/-- The reference's search, where the vessels are right. -/
noncomputable def askP (l0 l1 : List Int) (cl : Bool) : Option Srch := if goodB l0 l1 = true then sBfs l0 cl 3001 0 (sStart l0 l1) else none
theorem askP_inv {l0 l1 : List Int} {c : Bool} {r : Srch} (h : askP l0 l1 c = some r) : SInv l0 r := by
 unfold askP at h
 by_cases hg : goodB l0 l1 = true
 · rw [if_pos hg] at h
   exact sBfs_inv 3001 0 _ r (SInv.start (goodB_iff.1 hg)) h
 · rw [if_neg hg] at h; cases h
theorem reach_ask (l0 l1 : List Int) (c : Bool) : reachM 3000 l0 l1 c = (askP l0 l1 c).map fgt := by
 unfold reachM askP
 by_cases hg : goodB l0 l1 = true
 · rw [if_pos hg, if_pos hg, search_eq (goodB_iff.1 hg)]
 · rw [if_neg hg, if_neg hg]; rfl
/-- What plAsked leaves, to be read. -/
def AskX (w : World) (RES : Option Srch) (e : Ending) (w' : World) : Prop := Below w.heap.size w w' ∧ match RES with
 | some r => ∃ (g : Nat) (Aa : Option Addr) (ca : Nat) (u1 u2 u3 u4 : Value), e = .returned (.tuple #[.pointer (some ⟨g, 0, none⟩), .bool true]) ∧ w'.heap[g]? = some (.cells #[.slice Aa r.all.length ca, u1, u2, u3, u4] 92 (0, 0)) ∧ Kd.C k33 w' Aa r.all.length r.all
 | none => ∃ a : Option Addr, e = .returned (.tuple #[.pointer a, .bool false])
theorem askX_of {w : World} {s h : List Int} {cl : Bool} {e : Ending} {w' : World} (H : AskEnd w s h cl e w') : AskX w (askP s h cl) e w' := by
 unfold AskEnd at H
 unfold askP
 by_cases hg : goodB s h = true
 · rw [if_pos hg] at H ⊢
   obtain ⟨g, hb, H⟩ := H
   cases hs : sBfs s cl 3001 0 (sStart s h) with
   | none => rw [hs] at H; exact ⟨hb, _, H⟩
   | some r =>
     rw [hs] at H
     obtain ⟨he, c, va, vf, vm, vd, vo, vl, ls, M⟩ := H
     obtain ⟨Aa, ca, rfl⟩ := Kd.N_slice M.na
     exact ⟨hb, g, Aa, ca, vf, vm, vd, vo, he, M.blk, (Kd.N_reads' M.na).2.2⟩
 · rw [if_neg hg] at H ⊢
   exact ⟨H.2, _, H.1⟩
theorem info4_ : (Try.prog.info? 4).map (fun i => (i.zero, i.size, i.bytes)) = some (some (.bool false), 1, 1) := by kernel_rfl
def spec_SumsOfEnd (w : World) (RES : Option Srch) (e : Ending) (w' : World) : Prop := Below w.heap.size w w' ∧ match RES with
 | some r => ∃ (A : Option Addr) (c : Nat), e = .returned (.tuple #[.slice A (numTo (sumH r.all) 301).length c, .bool true]) ∧ Kd.R (Kd.int .i64) 3 w' w.heap.size (fun _ => True) (.slice A (numTo (sumH r.all) 301).length c) (numTo (sumH r.all) 301)
 | none => e = .returned (.tuple #[.slice none 0 0, .bool false])
set_option maxHeartbeats 8000000 in
set_option maxRecDepth 100000 in
theorem spec_SumsOf.calls (A0 A1 : Option Addr) (c0 c1 : Nat) (l0 l1 : List Int) (w : World) (hr0 : Kd.C (Kd.int .i64) w A0 l0.length l0) (hc0 : l0.length ≤ c0) (hr1 : Kd.C (Kd.int .i64) w A1 l1.length l1) (hc1 : l1.length ≤ c1) :
 Calls Try.prog 81 #[.agg #[.slice A0 l0.length c0, .slice A1 l1.length c1]] w (spec_SumsOfEnd w (askP l0 l1 false)) := by
 have hu33 := Try.underlying33
 have hu92 := Try.underlying92
 have HC86 : Hid (∀ W, Below w.heap.size w W → Calls Try.prog 86 #[.agg #[.slice A0 l0.length c0, .slice A1 l1.length c1], .bool false] W (AskX W (askP l0 l1 false))) := by
  intro W hW
  exact (spec_plAsked.calls false A0 A1 c0 c1 l0 l1 W (Kd.C_below hr0 hW) hc0 (Kd.C_below hr1 hW) hc1).mono (fun e w' h => askX_of h)
 clear hr0 hr1 hc0 hc1
 have B1 := Aside0.mk (below_alloc (Below.refl w.heap.size w) (.cells #[.slice A0 l0.length c0, .slice A1 l1.length c1] 33))
 generalize hS : askP l0 l1 false = S at HC86
 go_enter Try.func81, Try.ntmps81
 cases S with
 | none =>
   go_wp2_with (go_at_call 86; (refine (HC86.out _ B1.out).mono ?_; rintro e w2 ⟨hb, g, rfl⟩; have HB2 := Aside0.mk (B1.out.trans (hb.mono B1.out.size)); clear hb))
   refine bodyPost_ret (v := .tuple #[.slice none 0 0, .bool false]) (by simp [results, Try.results81, go_sem]) rfl ?_
   exact ⟨HB2.out, rfl⟩
 | some r =>
   have HI := Aside0.mk (askP_inv hS)
   clear hS
   go_upto_region 4 with (go_at_call 86; (refine (HC86.out _ B1.out).mono ?_; rintro e W3 ⟨hb, g, Aa, ca, u1, u2, u3, u4, rfl, hblk, hCa⟩; have HB2 := Aside0.mk (B1.out.trans (hb.mono B1.out.size)); have HBLK := Aside0.mk hblk; have HCA := Aside0.mk hCa; clear hb hblk hCa))
   clear HC86 B1
   have hy0 := blk_cell HBLK.out 0
   simp at hy0
   go_upto_region 5 with (at_make; refine Kd.R_make Kd.bool (w0 := W3) W3.heap.size 4 rfl rfl 138 _ _ rfl 301 rfl rfl Try.underlying138 (.bool false) 1 info4_ rfl (by decide) (by decide) false (okp := fun _ => True) rfl (fun _ h => h) trivial (by decide) (by decide) (Below.refl _ _) (Nat.le_refl _) ?_; intro v1 W4 h1 h2 h3 h4; have HR0 := Aside0.mk h1; have HB3 := Aside0.mk h2; have HG := Aside0.mk h3; clear h1 h2 h3 h4)
   replace hy0 := pw_cell_below HB3.out hy0
   obtain ⟨A, cm, hv⟩ := Kd.R_slice HR0.out
   rw [show (List.replicate (301 : Int).toNat false).length = 301 by simp] at hv
   subst hv
   have hr0 := HR0.out
   rw [show List.replicate (301 : Int).toNat false = mkd 301 (sumH (r.all.take 0)) from (mkd_nil 301).symm] at hr0
   obtain ⟨gm, rfl⟩ := R_some hr0 (by decide)
   have hgm := Kd.R_base hr0 gm rfl
   replace HR0 := Aside0.mk hr0
   have hln : r.all.length ≤ 3000 := HI.out.n2
   clear hr0 HG
   go_wp2
   go_loopg [22] r.all.length (fun gg sC wr => ∃ (j : Nat), sC = .int .i64 j ∧ j ≤ r.all.length ∧ r.all.length - j ≤ gg ∧ Aside0 (Kd.R Kd.bool 4 wr W3.heap.size (fun _ => True) (.slice (some ⟨gm, 0, none⟩) 301 cm) (mkd 301 (sumH (r.all.take j)))) ∧ Aside0 (Below W3.heap.size W3 wr))
   case atStart => exact ⟨0, rfl, Nat.zero_le _, by omega, HR0, HB3⟩
   case round =>
    clear HR0 HB3 hy0
    obtain ⟨j, rfl, hj, hgg, HR, HB⟩ := hrel
    by_cases hjl : j < r.all.length
    · have hjz : (j : Int) < (r.all.length : Int) := by omega
      obtain ⟨aa, B0, d0, B1, d1, ea, hy0, hy1, hd0, hz0, hd1, hz1⟩ := at_T33 HCA.out (j : Int) (by omega) (by omega)
      rw [Int.toNat_natCast] at hy0 hy1
      replace hy0 := pw_cell_below HB.out hy0
      replace hy1 := pw_cell_below HB.out hy1
      subst ea
      have Gj := (HI.out.at_ (i := (j : Int)) (by omega) (by omega)).2
      have HMEM := Lib.hid Gj.mem
      have hgl : (rd_T33 r.all (j : Int)).f1.length ≤ 5 := by rw [Gj.len]; exact Gj.n5
      have HD1 := Lib.hid hd1
      have hFT := sumH_take hjl
      have HFT := Aside0.mk hFT
      have HZ1 := Aside0.mk hz1
      obtain ⟨kt, ht⟩ := (vesum_ev Gj).rounds
      have HC141 : Hid (∀ W, Below wr.heap.size wr W → Calls Try.prog 141 #[.slice B1 (rd_T33 r.all (j : Int)).f1.length d1] W fun e w' => e = .returned (.int .i64 (sumL (rd_T33 r.all (j : Int)).f1)) ∧ Below W.heap.size W w') := fun W hW => (spec_veSum.calls kt B1 d1 _ _ W (Kd.C_below HZ1.out (HB.out.trans (hW.mono HB.out.size))) HD1.out ht).mono fun e w' h => ⟨h.1, h.2.below⟩
      clear ht
      clear Gj hFT hd0 hz0 hd1 hz1
      generalize (rd_T33 r.all j).f0.length = q0 at hy0
      generalize hxx : (rd_T33 r.all j).f1 = hx at hy1 HFT HZ1 HMEM hgl HD1 HC141
      clear hxx
      generalize hTT : sumH (r.all.take j) = tt at HR HFT
      clear hTT
      have hsb := sumL_bd hx HMEM.out
      generalize hsx : sumL hx = sx at HFT HC141 hsb
      clear hsx
      have hs0 : 0 ≤ sx := hsb.1
      have hs1 : sx < 301 := by omega
      go_upto_region 9 with (go_at_call 141; refine (HC141.out _ (below_alloc (Below.refl _ _) _)).mono ?_; rintro e w5 ⟨rfl, hb⟩; have hb5 := below_step (below_alloc (Below.refl wr.heap.size wr) _) hb; have hR5 := Kd.R_below HR.out hb5; obtain ⟨q0_, q1_⟩ := Kd.R_celln false hR5 sx hs0 hs1; have HR5 := Aside0.mk hR5; have HB5 := Aside0.mk (HB.out.trans (hb5.mono HB.out.size)); clear hb hb5 hR5)
      have HN := Aside0.mk (Kd.R_putn HR5.out sx true)
      have hms := mkd_set (N := 301) (L := tt) hs0 hs1
      rw [hms] at HN
      have HBN := Aside0.mk (HB5.out.setCell (p := ⟨gm, sx.toNat, none⟩) hgm (.bool true))
      clear q0_ q1_ HR5 HB5 hms hsb
      have hj1 : j + 1 ≤ r.all.length := by omega
      have hj2 : r.all.length - (j + 1) ≤ r.all.length - (j + 1) := Nat.le_refl _
      go_wp2_with fail
      go_roundg (r.all.length - (j + 1))
      case measure => omega
      case rel => exact ⟨j + 1, by go_num, hj1, hj2, ⟨by rw [HFT.out]; exact HN.out⟩, HBN⟩
    · have hjz : ¬ (j : Int) < (r.all.length : Int) := by omega
      have hje : r.all.take j = r.all := List.take_of_length_le (by omega)
      have hr := HR.out
      rw [hje] at hr
      obtain ⟨kn, hkn⟩ := (plNumbers_ev 301 (by decide) (sumH (r.all))).rounds
      have e : (mkd 301 (sumH (r.all))).length = 301 := mkd_length _ _
      have HC139 := spec_plNumbers.calls kn (some ⟨gm, 0, none⟩) cm (mkd 301 (sumH (r.all))) (numTo (sumH (r.all)) 301) wr (Kd.R_reads' hr).2.2 (by rw [e]; exact (Kd.R_reads' hr).2.1) hkn
      rw [e] at HC139
      have HC139 := Lib.hid HC139
      clear hr hje e hkn
      go_wp2_with (go_at_call 139; refine HC139.out.mono ?_; rintro e w5 ⟨v0, rfl, h1, h2⟩; obtain ⟨A7, c7, rfl⟩ := Kd.R_slice h1; have HO := Aside0.mk h1; have HBF := Aside0.mk (HB.out.trans (h2.mono HB.out.size)); clear h1 h2)
      refine bodyPost_ret (v := .tuple #[.slice A7 (numTo (sumH (r.all)) 301).length c7, .bool true]) (by simp [results, Try.results81, go_sem]) rfl ?_
      exact ⟨HB2.out.trans (HBF.out.mono HB2.out.size), _, _, rfl, Kd.R_lower HO.out (Nat.le_trans HB2.out.size HB.out.size)⟩
end Go.Proofs.Ytjllbahhkeglfaa.P
namespace Go.Proofs.Ytjllbahhkeglfaa.P
open Go.RowKit Go.Proofs.YtjllbahhkeglfaaW.PrintWords Go.Proofs.YtjllbahhkeglfaaW.PrintLast Go.Proofs.YtjllbahhkeglfaaW.PrintMore
set_option linter.unusedVariables false
set_option linter.unusedSimpArgs false
def spec_AmountsOfEnd (w : World) (RES : Option Srch) (e : Ending) (w' : World) : Prop := Below w.heap.size w w' ∧ match RES with
 | some r => ∃ (A : Option Addr) (c : Nat), e = .returned (.tuple #[.slice A (numTo (flatH r.all) 61).length c, .bool true]) ∧ Kd.R (Kd.int .i64) 3 w' w.heap.size (fun _ => True) (.slice A (numTo (flatH r.all) 61).length c) (numTo (flatH r.all) 61)
 | none => e = .returned (.tuple #[.slice none 0 0, .bool false])
set_option maxHeartbeats 8000000 in
set_option maxRecDepth 100000 in
theorem spec_AmountsOf.calls (cl : Bool) (A0 A1 : Option Addr) (c0 c1 : Nat) (l0 l1 : List Int) (w : World) (hr0 : Kd.C (Kd.int .i64) w A0 l0.length l0) (hc0 : l0.length ≤ c0) (hr1 : Kd.C (Kd.int .i64) w A1 l1.length l1) (hc1 : l1.length ≤ c1) :
 Calls Try.prog 76 #[.agg #[.slice A0 l0.length c0, .slice A1 l1.length c1], .bool cl] w (spec_AmountsOfEnd w (askP l0 l1 cl)) := by
 have hu33 := Try.underlying33
 have hu92 := Try.underlying92
 have HC86 : Hid (∀ W, Below w.heap.size w W → Calls Try.prog 86 #[.agg #[.slice A0 l0.length c0, .slice A1 l1.length c1], .bool cl] W (AskX W (askP l0 l1 cl))) := by
  intro W hW
  exact (spec_plAsked.calls cl A0 A1 c0 c1 l0 l1 W (Kd.C_below hr0 hW) hc0 (Kd.C_below hr1 hW) hc1).mono (fun e w' h => askX_of h)
 clear hr0 hr1 hc0 hc1
 have B1 := Aside0.mk (below_alloc (Below.refl w.heap.size w) (.cells #[.slice A0 l0.length c0, .slice A1 l1.length c1] 33))
 generalize hS : askP l0 l1 cl = S at HC86
 go_enter Try.func76, Try.ntmps76
 cases S with
 | none =>
   go_wp2_with (go_at_call 86; (refine (HC86.out _ B1.out).mono ?_; rintro e w2 ⟨hb, g, rfl⟩; have HB2 := Aside0.mk (B1.out.trans (hb.mono B1.out.size)); clear hb))
   refine bodyPost_ret (v := .tuple #[.slice none 0 0, .bool false]) (by simp [results, Try.results76, go_sem]) rfl ?_
   exact ⟨HB2.out, rfl⟩
 | some r =>
   have HI := Aside0.mk (askP_inv hS)
   clear hS
   go_upto_region 4 with (go_at_call 86; (refine (HC86.out _ B1.out).mono ?_; rintro e W3 ⟨hb, g, Aa, ca, u1, u2, u3, u4, rfl, hblk, hCa⟩; have HB2 := Aside0.mk (B1.out.trans (hb.mono B1.out.size)); have HBLK := Aside0.mk hblk; have HCA := Aside0.mk hCa; clear hb hblk hCa))
   clear HC86 B1
   have hy0 := blk_cell HBLK.out 0
   simp at hy0
   go_upto_region 5 with (at_make; refine Kd.R_make Kd.bool (w0 := W3) W3.heap.size 4 rfl rfl 138 _ _ rfl 61 rfl rfl Try.underlying138 (.bool false) 1 info4_ rfl (by decide) (by decide) false (okp := fun _ => True) rfl (fun _ h => h) trivial (by decide) (by decide) (Below.refl _ _) (Nat.le_refl _) ?_; intro v1 W4 h1 h2 h3 h4; have HR0 := Aside0.mk h1; have HB3 := Aside0.mk h2; have HG := Aside0.mk h3; clear h1 h2 h3 h4)
   replace hy0 := pw_cell_below HB3.out hy0
   obtain ⟨A, cm, hv⟩ := Kd.R_slice HR0.out
   rw [show (List.replicate (61 : Int).toNat false).length = 61 by simp] at hv
   subst hv
   have hr0 := HR0.out
   rw [show List.replicate (61 : Int).toNat false = mkd 61 (flatH (r.all.take 0)) from (mkd_nil 61).symm] at hr0
   obtain ⟨gm, rfl⟩ := R_some hr0 (by decide)
   have hgm := Kd.R_base hr0 gm rfl
   replace HR0 := Aside0.mk hr0
   have hln : r.all.length ≤ 3000 := HI.out.n2
   clear hr0 HG
   go_wp2
   go_loopg [27] r.all.length (fun gg sC wr => ∃ (j : Nat), sC = .int .i64 j ∧ j ≤ r.all.length ∧ r.all.length - j ≤ gg ∧ Aside0 (Kd.R Kd.bool 4 wr W3.heap.size (fun _ => True) (.slice (some ⟨gm, 0, none⟩) 61 cm) (mkd 61 (flatH (r.all.take j)))) ∧ Aside0 (Below W3.heap.size W3 wr))
   case atStart => exact ⟨0, rfl, Nat.zero_le _, by omega, HR0, HB3⟩
   case round =>
    clear HR0 HB3 hy0
    obtain ⟨j, rfl, hj, hgg, HR, HB⟩ := hrel
    by_cases hjl : j < r.all.length
    · have hjz : (j : Int) < (r.all.length : Int) := by omega
      obtain ⟨aa, B0, d0, B1, d1, ea, hy0, hy1, hd0, hz0, hd1, hz1⟩ := at_T33 HCA.out (j : Int) (by omega) (by omega)
      rw [Int.toNat_natCast] at hy0 hy1
      replace hy0 := pw_cell_below HB.out hy0
      replace hy1 := pw_cell_below HB.out hy1
      subst ea
      have Gj := (HI.out.at_ (i := (j : Int)) (by omega) (by omega)).2
      have HMEM := Lib.hid Gj.mem
      have hgl : (rd_T33 r.all (j : Int)).f1.length ≤ 5 := by rw [Gj.len]; exact Gj.n5
      have HD1 := Lib.hid hd1
      have hFT := flatH_take hjl
      have HFT := Aside0.mk hFT
      have HZ1 := Aside0.mk hz1
      skip
      clear Gj hFT hd0 hz0 hd1 hz1
      generalize (rd_T33 r.all j).f0.length = q0 at hy0
      generalize hxx : (rd_T33 r.all j).f1 = hx at hy1 HFT HZ1 HMEM hgl HD1 
      clear hxx
      generalize hTT : flatH (r.all.take j) = tt at HR HFT
      clear hTT
      go_wp2
      go_loopg [34] hx.length (fun gg2 sI wi => ∃ (i : Nat), sI = .int .i64 i ∧ i ≤ hx.length ∧ hx.length - i ≤ gg2 ∧ Aside0 (Kd.R Kd.bool 4 wi W3.heap.size (fun _ => True) (.slice (some ⟨gm, 0, none⟩) 61 cm) (mkd 61 (tt ++ hx.take i))) ∧ Aside0 (Below W3.heap.size W3 wi))
      case atStart => exact ⟨0, rfl, Nat.zero_le _, by omega, ⟨by rw [List.take_zero, List.append_nil]; exact Kd.R_alloc HR.out _⟩, ⟨below_alloc HB.out _⟩⟩
      case round =>
       clear HR HB hy0 hy1
       obtain ⟨i, rfl, hi, hgg2, HR, HB⟩ := hrel
       by_cases hil : i < hx.length
       · have hilz : (i : Int) < (hx.length : Int) := by omega
         obtain ⟨ad, ea, hc⟩ := Kd.at_int (Kd.C_below HZ1.out HB.out) (i : Int) (by omega) hilz
         subst ea
         rw [Int.toNat_natCast] at hc
         have hm := HMEM.out _ (mem_rd (by omega : (0 : Int) ≤ (i : Int)) hilz)
         have ht := take_snoc_rd (by omega : (0 : Int) ≤ (i : Int)) hilz
         rw [Int.toNat_natCast] at ht
         generalize hxe : rd hx (i : Int) = x at hc hm ht
         clear hxe
         have hs0 : 0 ≤ x := hm.1
         have hs1 : x < 61 := by omega
         have HT := Aside0.mk ht
         obtain ⟨q0_, q1_⟩ := Kd.R_celln false HR.out x hs0 hs1
         clear ht hm
         go_upto_region 12 with fail
         have HN := Aside0.mk (Kd.R_putn HR.out x true)
         have hms := mkd_set (N := 61) (L := tt ++ hx.take i) hs0 hs1
         rw [hms, List.append_assoc, ← HT.out] at HN
         have HBN := Aside0.mk (HB.out.setCell (p := ⟨gm, x.toNat, none⟩) hgm (.bool true))
         clear q0_ q1_ hms hc HR HB
         have hi1 : i + 1 ≤ hx.length := by omega
         have hi2 : hx.length - (i + 1) ≤ hx.length - (i + 1) := Nat.le_refl _
         go_wp2_with fail
         go_roundg (hx.length - (i + 1))
         case measure => omega
         case rel => exact ⟨i + 1, by go_num, hi1, hi2, HN, HBN⟩
       · have hilz : ¬ (i : Int) < (hx.length : Int) := by omega
         have hr := HR.out
         rw [List.take_of_length_le (by omega), ← HFT.out] at hr
         have HN := Aside0.mk hr
         have hj1 : j + 1 ≤ r.all.length := by omega
         have hj2 : r.all.length - (j + 1) ≤ r.all.length - (j + 1) := Nat.le_refl _
         clear hr HR
         go_wp2_with fail
         go_roundg (r.all.length - (j + 1))
         case measure => omega
         case rel => exact ⟨j + 1, by go_num, hj1, hj2, HN, HB⟩
    · have hjz : ¬ (j : Int) < (r.all.length : Int) := by omega
      have hje : r.all.take j = r.all := List.take_of_length_le (by omega)
      have hr := HR.out
      rw [hje] at hr
      obtain ⟨kn, hkn⟩ := (plNumbers_ev 61 (by decide) (flatH (r.all))).rounds
      have e : (mkd 61 (flatH (r.all))).length = 61 := mkd_length _ _
      have HC139 := spec_plNumbers.calls kn (some ⟨gm, 0, none⟩) cm (mkd 61 (flatH (r.all))) (numTo (flatH (r.all)) 61) wr (Kd.R_reads' hr).2.2 (by rw [e]; exact (Kd.R_reads' hr).2.1) hkn
      rw [e] at HC139
      have HC139 := Lib.hid HC139
      clear hr hje e hkn
      go_wp2_with (go_at_call 139; refine HC139.out.mono ?_; rintro e w5 ⟨v0, rfl, h1, h2⟩; obtain ⟨A7, c7, rfl⟩ := Kd.R_slice h1; have HO := Aside0.mk h1; have HBF := Aside0.mk (HB.out.trans (h2.mono HB.out.size)); clear h1 h2)
      refine bodyPost_ret (v := .tuple #[.slice A7 (numTo (flatH (r.all)) 61).length c7, .bool true]) (by simp [results, Try.results76, go_sem]) rfl ?_
      exact ⟨HB2.out.trans (HBF.out.mono HB2.out.size), _, _, rfl, Kd.R_lower HO.out (Nat.le_trans HB2.out.size HB.out.size)⟩
end Go.Proofs.Ytjllbahhkeglfaa.P
namespace Go.Proofs.Ytjllbahhkeglfaa.P
open Go.RowKit Go.Proofs.YtjllbahhkeglfaaW.PrintWords Go.Proofs.YtjllbahhkeglfaaW.PrintLast Go.Proofs.YtjllbahhkeglfaaW.PrintMore
set_option linter.unusedVariables false
set_option linter.unusedSimpArgs false
theorem R_empty {α : Type} {d : Kd α} {e base : Nat} {W : World} {ok : Nat → Prop} (hb : base ≤ W.heap.size) (hok : ok W.heap.size) : Kd.R d e (W.alloc (.cells #[] e)) base ok (.slice (some ⟨W.heap.size, 0, none⟩) 0 0) [] := by
 refine ⟨fun k hk => ?_, [], ?_, Reps.none _ _⟩
 · have : W.heap.size = k := by simpa [Value.ownBlock] using hk
   rw [← this]; exact hok
 · have := World.ownsRow_lit (base := base) (e := e) (size := d.sz) W #[] 0 hb (by simp [maxLen]) (by simp)
   simpa using this
section
variable {P : Program} {ops : Array Oper} {o : Oper} {a : Act} {rest : List Oper} {Ql : Exit → Act → World → Prop}
/-- append(v, l...) at numbers, in a region that does not draw. -/
theorem R_appC {w0 W : World} (base : Nat) (hgd : o.guard = none) (s x : Operand) (t e : TypeId) (z : Value) (bytes : Nat)
 (ho : o.op = .call { callee := .builtin .append, args := #[s, x], argTypes := #[t, t] })
 (ht : P.underlying t = some (.slice e)) (hinfo : (P.info? e).map (fun i => (i.zero, i.size, i.bytes)) = some (some z, 1, bytes)) (hz : z.cells.size = 1) (hb0 : 0 < bytes)
 (v : Value) (xs ys : List Int) (A : Option Addr) (c : Nat) (ok : Nat → Prop) (hs : a.eval s = v) (hx : a.eval x = .slice A ys.length c)
 (hN : Kd.R (Kd.int .i64) e W base ok v xs) (hfr : ∀ k, W.heap.size ≤ k → ok k) (hC : Kd.C (Kd.int .i64) W A ys.length ys) (hbw : Below base w0 W) (hbase : base ≤ W.heap.size) (hl : (xs.length + ys.length) * bytes ≤ 140737488355328)
 (h : ∀ v1 w1, Kd.R (Kd.int .i64) e w1 base ok v1 (xs ++ ys) → Below base w0 w1 → W.grownBy w1 v.ownBlock → (v1.ownBlock = v.ownBlock ∨ ∃ b, v1.ownBlock = some b ∧ W.heap.size ≤ b) → wpList P ops Ql rest (a.put o.dst v1) w1) :
 wpList P ops Ql (o :: rest) a W := by
 refine wpList_plain hgd fun K hK => ?_
 have hw : Region.wanted o (yielded ops a.tmps) = true := by simp [Region.wanted, hgd]
 have hgo := Kd.R_append_rows_step (P := P) (ops := ops) (o := o) (a := a) (Q := Ql) (Kc := K) (Kd.int .i64) (w0 := w0) (W := W) base hw s x t e z bytes ho ht hinfo hz (by decide) hb0 v xs ys A ys.length c ok (fun _ => False) hs hx hN hC
  (fun q cs hq => hq) (fun _ hk => hk.elim) hfr hbw hbase hl (fun v1 w1 h1 h2 h3 h4 => hK _ _ (h v1 w1 h1 h2 h3 h4))
 rwa [if_pos hw] at hgo
end
end Go.Proofs.Ytjllbahhkeglfaa.P
namespace Go.Proofs.Ytjllbahhkeglfaa.P
open Go.RowKit Go.Proofs.YtjllbahhkeglfaaW.PrintWords Go.Proofs.YtjllbahhkeglfaaW.PrintLast Go.Proofs.YtjllbahhkeglfaaW.PrintMore
set_option linter.unusedVariables false
set_option linter.unusedSimpArgs false
def impl_AmountsOfEnd (w : World) (RES : Option Srch) (e : Ending) (w' : World) : Prop := Below w.heap.size w w' ∧ match RES with
 | some r => ∃ (A : Option Addr) (c : Nat), e = .returned (.tuple #[.slice A (incP (flatH r.all)).length c, .bool true]) ∧ Kd.R (Kd.int .i64) 3 w' w.heap.size (fun _ => True) (.slice A (incP (flatH r.all)).length c) (incP (flatH r.all))
 | none => e = .returned (.tuple #[.slice none 0 0, .bool false])
set_option maxHeartbeats 8000000 in
set_option maxRecDepth 100000 in
theorem impl_AmountsOf.calls (cl : Bool) (A0 A1 : Option Addr) (c0 c1 : Nat) (l0 l1 : List Int) (w : World) (hr0 : Kd.C (Kd.int .i64) w A0 l0.length l0) (hc0 : l0.length ≤ c0) (hr1 : Kd.C (Kd.int .i64) w A1 l1.length l1) (hc1 : l1.length ≤ c1) :
 Calls Try.prog 77 #[.agg #[.slice A0 l0.length c0, .slice A1 l1.length c1], .bool cl] w (impl_AmountsOfEnd w (reachM 3000 l0 l1 cl)) := by
 have hu97 := Try.underlying97
 have hu33 := Try.underlying33
 have HC91 : Hid (∀ W, Below w.heap.size w W → Calls Try.prog 91 #[.agg #[.slice A0 l0.length c0, .slice A1 l1.length c1], .bool cl, .int .i64 3000] W (ReachX W l0 (reachM 3000 l0 l1 cl))) := by
  intro W hW
  exact impl_reachOf.callsX 3000 (by decide) (by decide) cl A0 A1 c0 c1 l0 l1 W (Kd.C_below hr0 hW) hc0 (Kd.C_below hr1 hW) hc1
 clear hr0 hr1 hc0 hc1
 have B1 := Aside0.mk (below_alloc (Below.refl w.heap.size w) (.cells #[.slice A0 l0.length c0, .slice A1 l1.length c1] 33))
 generalize hS : reachM 3000 l0 l1 cl = S at HC91
 go_enter Try.func77, Try.ntmps77
 cases S with
 | none =>
   go_wp2_with (go_at_call 91; (refine (HC91.out _ B1.out).mono ?_; rintro e w2 ⟨hb, rfl⟩; have HB2 := Aside0.mk (B1.out.trans (hb.mono B1.out.size)); clear hb))
   refine bodyPost_ret (v := .tuple #[.slice none 0 0, .bool false]) (by simp [results, Try.results77, go_sem]) rfl ?_
   exact ⟨below_alloc HB2.out _, rfl⟩
 | some r =>
   have HI := Aside0.mk (reachM_inv hS)
   clear hS
   have HE91 : Hid (∀ W e w', ReachX W l0 (some r) e w' → Below W.heap.size W w' ∧ ∃ (Aa : Option Addr) (ca b : Nat) (Ad : Option Addr) (cd : Nat) (Af : Option Addr) (cf : Nat) (Am : Option Addr) (cm : Nat), e = .returned (.tuple #[.agg #[.slice Aa r.all.length ca, .map (some b), .slice Ad r.far.length cd, .slice Af r.fr.length cf, .slice Am r.ms.length cm], .bool true]) ∧ Kd.C k33 w' Aa r.all.length r.all) := by
    rintro W e w' ⟨hb, Aa, ca, b, Ad, cd, Af, cf, Am, cm, _, _, he, _, h0, _⟩
    exact ⟨hb, Aa, ca, b, Ad, cd, Af, cf, Am, cm, he, h0⟩
   go_upto_region 4 with (go_at_call 91; (refine (HC91.out _ B1.out).mono ?_; intro e w2 hE; obtain ⟨hb, Aa, ca, bm, Ad, cd, Af, cf, Am, cm, rfl, hCa⟩ := HE91.out _ _ _ hE; clear hE; have HB2 := Aside0.mk (below_alloc (B1.out.trans (hb.mono B1.out.size)) (.cells #[.slice Aa r.all.length ca, .map (some bm), .slice Ad r.far.length cd, .slice Af r.fr.length cf, .slice Am r.ms.length cm] 97)); have HK8 := Aside0.mk (blk_new w2 (.cells #[.slice Aa r.all.length ca, .map (some bm), .slice Ad r.far.length cd, .slice Af r.fr.length cf, .slice Am r.ms.length cm] 97)); have HCA := Aside0.mk (Kd.C_below hCa (below_alloc (Below.refl _ _) (.cells #[.slice Aa r.all.length ca, .map (some bm), .slice Ad r.far.length cd, .slice Af r.fr.length cf, .slice Am r.ms.length cm] 97))); clear hCa hb))
   clear HC91 HE91 B1
   generalize w2.alloc (.cells #[.slice Aa r.all.length ca, .map (some bm), .slice Ad r.far.length cd, .slice Af r.fr.length cf, .slice Am r.ms.length cm] 97) = W3 at HB2 HK8 HCA ⊢
   generalize w2.heap.size = g8 at HK8 ⊢
   have hy0 := blk_cell HK8.out 0
   simp at hy0
   go_upto_region 5 with fail
   have hR0 : Kd.R (Kd.int .i64) 3 (W3.alloc (.cells #[] 3)) W3.heap.size (fun _ => True) (.slice (some ⟨W3.heap.size, 0, none⟩) 0 0) [] := R_empty (Nat.le_refl _) trivial
   have HR0 := Aside0.mk hR0
   have HB3 := Aside0.mk (below_alloc (Below.refl W3.heap.size W3) (.cells #[] 3))
   replace hy0 := pw_cell_below HB3.out hy0
   clear hR0
   generalize W3.alloc (.cells #[] 3) = W4 at HR0 HB3 hy0 ⊢
   have hln : r.all.length ≤ 3000 := HI.out.n2
   go_wp2
   go_loopg [8, 23] r.all.length (fun gg sO sC wr => ∃ (j : Nat) (A : Option Addr) (c : Nat), sO = .slice A (flatH (r.all.take j)).length c ∧ sC = .int .i64 j ∧ j ≤ r.all.length ∧ r.all.length - j ≤ gg ∧ Aside0 (Kd.R (Kd.int .i64) 3 wr W3.heap.size (fun _ => True) (.slice A (flatH (r.all.take j)).length c) (flatH (r.all.take j))) ∧ Aside0 (Below W3.heap.size W3 wr))
   case atStart => exact ⟨0, _, 0, rfl, rfl, Nat.zero_le _, by omega, HR0, HB3⟩
   case round =>
    clear HR0 HB3 hy0
    obtain ⟨j, A, c, rfl, rfl, hj, hgg, HR, HB⟩ := hrel
    have hbl := flatH_len (fun x hx => HI.out.good x (List.mem_of_mem_take hx) : ∀ x ∈ r.all.take j, x.f0 = l0 ∧ Good l0 x.f1)
    have hbs := sumH_len (r.all.take j)
    have htl : (r.all.take j).length ≤ 3000 := by rw [List.length_take]; omega
    by_cases hjl : j < r.all.length
    · have hjz : (j : Int) < (r.all.length : Int) := by omega
      obtain ⟨aa, B0, d0, B1, d1, ea, hy0, hy1, hd0, hz0, hd1, hz1⟩ := at_T33 (Kd.C_below HCA.out HB.out) (j : Int) (by omega) (by omega)
      subst ea
      rw [Int.toNat_natCast] at hy0 hy1
      have Gj := (HI.out.at_ (i := (j : Int)) (by omega) (by omega)).2
      have hg5 := Gj.n5
      have hgl := Gj.len
      have HD1 := Lib.hid hd1
      have HLM := Aside0.mk (show ((flatH (r.all.take j)).length + ((rd_T33 r.all (j : Int)).f1).length) * 8 ≤ 140737488355328 by unfold flatH at *; omega)
      have hFT := flatH_take hjl
      have HFT := Aside0.mk hFT
      have HZ1 := Aside0.mk hz1
      skip
      clear hbl hbs htl hg5 hgl Gj hFT hd0 hz0 hd1 hz1
      generalize (rd_T33 r.all j).f0.length = q0 at hy0
      generalize hxx : (rd_T33 r.all j).f1 = hx at hy1 HLM HFT HZ1 HD1
      clear hxx
      generalize hTT : flatH (r.all.take j) = tt at HR HLM HFT ⊢
      clear hTT
      go_wp2_with (((with_reducible refine gate_builtin (b := .append) (xs := #[.tmp 27, .tmp 29]) rfl ?_); at_builtin; refine R_appC (w0 := W3) W3.heap.size (by rfl) (.tmp 27) (.tmp 29) 28 3 (.int .i64 0) 8 (by rfl) Try.underlying28 info3 rfl (by omega) (.slice A tt.length c) tt hx B1 d1 (fun _ => True) (by rfl) (by rfl) (Kd.R_alloc HR.out _) (fun _ _ => trivial) (Kd.C_below HZ1.out (below_alloc (Below.refl _ _) _)) (below_alloc HB.out _) (below_alloc HB.out _).size HLM.out ?_; intro v1 w5 h1 h2 h3 h4))
      have HO := Aside0.mk h1
      have HBN := Aside0.mk h2
      clear h1 h2 h3
      try clear h4
      have hj1 : j + 1 ≤ r.all.length := by omega
      have hj2 : r.all.length - (j + 1) ≤ r.all.length - (j + 1) := Nat.le_refl _
      obtain ⟨A7, c7, rfl⟩ := Kd.R_slice HO.out
      go_roundg (r.all.length - (j + 1))
      case measure => omega
      case rel =>
       refine ⟨j + 1, A7, c7, ?_, by go_num, hj1, hj2, ?_, HBN⟩
       · rw [HFT.out]
       · rw [HFT.out]; exact HO
    · have hjz : ¬ (j : Int) < (r.all.length : Int) := by omega
      have hje : r.all.take j = r.all := List.take_of_length_le (by omega)
      rw [hje] at HR hbl hbs ⊢
      clear htl
      have hpos := flatH_pos HI.out
      obtain ⟨g, rfl⟩ := R_some HR.out hpos
      have hgb := Kd.R_base HR.out g rfl
      have HC140 := Aside0.mk (impl_increasing.calls W3.heap.size g c (fun _ => True) (flatH (r.all)) wr (by omega) HR.out)
      have HR2 := Aside0.mk HR.out
      clear HR hbl hbs hpos hje
      generalize hTT : flatH (r.all) = tt at HC140 HR2 ⊢
      have HTT := Aside0.mk hTT
      clear hTT
      go_wp2_with (go_at_call 140; refine HC140.out.mono ?_; rintro e w5 ⟨rfl, h1, h2⟩; have HO := Aside0.mk h1; have HG := Aside0.mk h2; clear h1 h2)
      have HBF : Below W3.heap.size W3 w5 := ⟨HG.out.os.trans HB.out.os, HG.out.tape.trans HB.out.tape, HG.out.output.trans HB.out.output, Nat.le_trans HB.out.size HG.out.size, fun k hk => (HG.out.block k (Nat.lt_of_lt_of_le hk HB.out.size) (fun e => by injection e with e; omega)).trans (HB.out.block k hk)⟩
      refine bodyPost_ret (v := .tuple #[.slice (some ⟨g, 0, none⟩) (incP tt).length c, .bool true]) (by simp [results, Try.results77, go_sem]) rfl ?_
      obtain rfl := HTT.out
      exact ⟨HB2.out.trans (HBF.mono HB2.out.size), _, _, rfl, Kd.R_lower HO.out HB2.out.size⟩
end Go.Proofs.Ytjllbahhkeglfaa.P
namespace Go.Proofs.Ytjllbahhkeglfaa.P
open Go.RowKit Go.Proofs.YtjllbahhkeglfaaW.PrintWords Go.Proofs.YtjllbahhkeglfaaW.PrintLast Go.Proofs.YtjllbahhkeglfaaW.PrintMore
set_option linter.unusedVariables false
set_option linter.unusedSimpArgs false
theorem laws_mono_calls {P : Program} {f : FuncId} {xs_ : Array Value} {w : World} {v : Value} (h : Calls P f xs_ w fun e w' => e = .returned v ∧ Drawn0 w w') : Calls P f xs_ w fun e w' => e = .returned v ∧ Below w.heap.size w w' := h.mono fun e w' h => ⟨h.1, h.2.below⟩
def impl_SumsOfEnd (w : World) (RES : Option Srch) (e : Ending) (w' : World) : Prop := Below w.heap.size w w' ∧ match RES with
 | some r => ∃ (A : Option Addr) (c : Nat), e = .returned (.tuple #[.slice A (incP (sumH r.all)).length c, .bool true]) ∧ Kd.R (Kd.int .i64) 3 w' w.heap.size (fun _ => True) (.slice A (incP (sumH r.all)).length c) (incP (sumH r.all))
 | none => e = .returned (.tuple #[.slice none 0 0, .bool false])
set_option maxHeartbeats 8000000 in
set_option maxRecDepth 100000 in
theorem impl_SumsOf.calls (A0 A1 : Option Addr) (c0 c1 : Nat) (l0 l1 : List Int) (w : World) (hr0 : Kd.C (Kd.int .i64) w A0 l0.length l0) (hc0 : l0.length ≤ c0) (hr1 : Kd.C (Kd.int .i64) w A1 l1.length l1) (hc1 : l1.length ≤ c1) :
 Calls Try.prog 82 #[.agg #[.slice A0 l0.length c0, .slice A1 l1.length c1]] w (impl_SumsOfEnd w (reachM 3000 l0 l1 false)) := by
 have hu97 := Try.underlying97
 have hu33 := Try.underlying33
 have HC91 : Hid (∀ W, Below w.heap.size w W → Calls Try.prog 91 #[.agg #[.slice A0 l0.length c0, .slice A1 l1.length c1], .bool false, .int .i64 3000] W (ReachX W l0 (reachM 3000 l0 l1 false))) := by
  intro W hW
  exact impl_reachOf.callsX 3000 (by decide) (by decide) false A0 A1 c0 c1 l0 l1 W (Kd.C_below hr0 hW) hc0 (Kd.C_below hr1 hW) hc1
 clear hr0 hr1 hc0 hc1
 have B1 := Aside0.mk (below_alloc (Below.refl w.heap.size w) (.cells #[.slice A0 l0.length c0, .slice A1 l1.length c1] 33))
 generalize hS : reachM 3000 l0 l1 false = S at HC91
 go_enter Try.func82, Try.ntmps82
 cases S with
 | none =>
   go_wp2_with (go_at_call 91; (refine (HC91.out _ B1.out).mono ?_; rintro e w2 ⟨hb, rfl⟩; have HB2 := Aside0.mk (B1.out.trans (hb.mono B1.out.size)); clear hb))
   refine bodyPost_ret (v := .tuple #[.slice none 0 0, .bool false]) (by simp [results, Try.results82, go_sem]) rfl ?_
   exact ⟨below_alloc HB2.out _, rfl⟩
 | some r =>
   have HI := Aside0.mk (reachM_inv hS)
   clear hS
   have HE91 : Hid (∀ W e w', ReachX W l0 (some r) e w' → Below W.heap.size W w' ∧ ∃ (Aa : Option Addr) (ca b : Nat) (Ad : Option Addr) (cd : Nat) (Af : Option Addr) (cf : Nat) (Am : Option Addr) (cm : Nat), e = .returned (.tuple #[.agg #[.slice Aa r.all.length ca, .map (some b), .slice Ad r.far.length cd, .slice Af r.fr.length cf, .slice Am r.ms.length cm], .bool true]) ∧ Kd.C k33 w' Aa r.all.length r.all) := by
    rintro W e w' ⟨hb, Aa, ca, b, Ad, cd, Af, cf, Am, cm, _, _, he, _, h0, _⟩
    exact ⟨hb, Aa, ca, b, Ad, cd, Af, cf, Am, cm, he, h0⟩
   go_upto_region 4 with (go_at_call 91; (refine (HC91.out _ B1.out).mono ?_; intro e w2 hE; obtain ⟨hb, Aa, ca, bm, Ad, cd, Af, cf, Am, cm, rfl, hCa⟩ := HE91.out _ _ _ hE; clear hE; have HB2 := Aside0.mk (below_alloc (B1.out.trans (hb.mono B1.out.size)) (.cells #[.slice Aa r.all.length ca, .map (some bm), .slice Ad r.far.length cd, .slice Af r.fr.length cf, .slice Am r.ms.length cm] 97)); have HK8 := Aside0.mk (blk_new w2 (.cells #[.slice Aa r.all.length ca, .map (some bm), .slice Ad r.far.length cd, .slice Af r.fr.length cf, .slice Am r.ms.length cm] 97)); have HCA := Aside0.mk (Kd.C_below hCa (below_alloc (Below.refl _ _) (.cells #[.slice Aa r.all.length ca, .map (some bm), .slice Ad r.far.length cd, .slice Af r.fr.length cf, .slice Am r.ms.length cm] 97))); clear hCa hb))
   clear HC91 HE91 B1
   generalize w2.alloc (.cells #[.slice Aa r.all.length ca, .map (some bm), .slice Ad r.far.length cd, .slice Af r.fr.length cf, .slice Am r.ms.length cm] 97) = W3 at HB2 HK8 HCA ⊢
   generalize w2.heap.size = g8 at HK8 ⊢
   have hy0 := blk_cell HK8.out 0
   simp at hy0
   go_upto_region 5 with fail
   have hR0 : Kd.R (Kd.int .i64) 3 (W3.alloc (.cells #[] 3)) W3.heap.size (fun _ => True) (.slice (some ⟨W3.heap.size, 0, none⟩) 0 0) [] := R_empty (Nat.le_refl _) trivial
   have HR0 := Aside0.mk hR0
   have HB3 := Aside0.mk (below_alloc (Below.refl W3.heap.size W3) (.cells #[] 3))
   replace hy0 := pw_cell_below HB3.out hy0
   clear hR0
   generalize W3.alloc (.cells #[] 3) = W4 at HR0 HB3 hy0 ⊢
   have hln : r.all.length ≤ 3000 := HI.out.n2
   go_wp2
   go_loopg [6, 20] r.all.length (fun gg sO sC wr => ∃ (j : Nat) (A : Option Addr) (c : Nat), sO = .slice A (sumH (r.all.take j)).length c ∧ sC = .int .i64 j ∧ j ≤ r.all.length ∧ r.all.length - j ≤ gg ∧ Aside0 (Kd.R (Kd.int .i64) 3 wr W3.heap.size (fun _ => True) (.slice A (sumH (r.all.take j)).length c) (sumH (r.all.take j))) ∧ Aside0 (Below W3.heap.size W3 wr))
   case atStart => exact ⟨0, _, 0, rfl, rfl, Nat.zero_le _, by omega, HR0, HB3⟩
   case round =>
    clear HR0 HB3 hy0
    obtain ⟨j, A, c, rfl, rfl, hj, hgg, HR, HB⟩ := hrel
    have hbl := flatH_len (fun x hx => HI.out.good x (List.mem_of_mem_take hx) : ∀ x ∈ r.all.take j, x.f0 = l0 ∧ Good l0 x.f1)
    have hbs := sumH_len (r.all.take j)
    have htl : (r.all.take j).length ≤ 3000 := by rw [List.length_take]; omega
    by_cases hjl : j < r.all.length
    · have hjz : (j : Int) < (r.all.length : Int) := by omega
      obtain ⟨aa, B0, d0, B1, d1, ea, hy0, hy1, hd0, hz0, hd1, hz1⟩ := at_T33 (Kd.C_below HCA.out HB.out) (j : Int) (by omega) (by omega)
      subst ea
      rw [Int.toNat_natCast] at hy0 hy1
      have Gj := (HI.out.at_ (i := (j : Int)) (by omega) (by omega)).2
      have hg5 := Gj.n5
      have hgl := Gj.len
      have HD1 := Lib.hid hd1
      have HLM := Aside0.mk (show ((sumH (r.all.take j)).length + ([sumL (rd_T33 r.all (j : Int)).f1]).length) * 8 ≤ 140737488355328 by unfold sumH at *; simp only [List.length_singleton]; omega)
      have hFT := sumH_take hjl
      have HFT := Aside0.mk hFT
      have HZ1 := Aside0.mk hz1
      obtain ⟨kt, ht⟩ := (total_ev Gj).rounds
      have HC113 : Hid (∀ W, Below wr.heap.size wr W → Calls Try.prog 113 #[.slice B1 (rd_T33 r.all (j : Int)).f1.length d1] W fun e w' => e = .returned (.int .i64 (sumL (rd_T33 r.all (j : Int)).f1)) ∧ Below W.heap.size W w') := fun W hW => (laws_mono_calls (impl_total.calls kt B1 d1 _ _ W (Kd.C_below HZ1.out hW) HD1.out ht))
      clear ht
      clear hbl hbs htl hg5 hgl Gj hFT hd0 hz0 hd1 hz1
      generalize (rd_T33 r.all j).f0.length = q0 at hy0
      generalize hxx : (rd_T33 r.all j).f1 = hx at hy1 HLM HFT HZ1 HD1 HC113
      clear hxx
      generalize hTT : sumH (r.all.take j) = tt at HR HLM HFT ⊢
      clear hTT
      generalize hsx : sumL hx = sx at HLM HFT HC113
      clear hsx
      go_wp2_with (first
       | (go_at_call 113; refine (HC113.out _ (below_alloc (Below.refl _ _) _)).mono ?_; rintro e w5 ⟨rfl, hb⟩; have HB5 := Aside0.mk (below_step (below_alloc (Below.refl wr.heap.size wr) _) hb); clear hb)
       | ((with_reducible refine gate_builtin (b := .append) (xs := #[.tmp 24, .tmp 28]) rfl ?_); at_builtin; refine R_app (Kd.int .i64) (w0 := W3) (w4 := wr) W3.heap.size (by rfl) (.tmp 24) (.tmp 28) 28 3 (.int .i64 0) 8 (by rfl) Try.underlying28 info3 rfl (by decide) (by omega) (.slice A tt.length c) tt sx [.int .i64 sx] (fun _ => True) w5.heap.size (by rfl) (by rfl) HR.out (fun _ _ => trivial) (fun _ _ => rfl) HB.out HB.out.size HLM.out ?g3 ?g4 ?_; (case g3 => exact below_alloc HB5.out _); (case g4 => exact blk_new _ _); intro v1 w6 h1 h2 h3))
      have HO := Aside0.mk h1
      have HBN := Aside0.mk h2
      clear h1 h2 h3
      try clear h4
      have hj1 : j + 1 ≤ r.all.length := by omega
      have hj2 : r.all.length - (j + 1) ≤ r.all.length - (j + 1) := Nat.le_refl _
      obtain ⟨A7, c7, rfl⟩ := Kd.R_slice HO.out
      go_roundg (r.all.length - (j + 1))
      case measure => omega
      case rel =>
       refine ⟨j + 1, A7, c7, ?_, by go_num, hj1, hj2, ?_, HBN⟩
       · rw [HFT.out]
       · rw [HFT.out]; exact HO
    · have hjz : ¬ (j : Int) < (r.all.length : Int) := by omega
      have hje : r.all.take j = r.all := List.take_of_length_le (by omega)
      rw [hje] at HR hbl hbs ⊢
      clear htl
      have hpos := sumH_pos HI.out
      obtain ⟨g, rfl⟩ := R_some HR.out hpos
      have hgb := Kd.R_base HR.out g rfl
      have HC140 := Aside0.mk (impl_increasing.calls W3.heap.size g c (fun _ => True) (sumH (r.all)) wr (by omega) HR.out)
      have HR2 := Aside0.mk HR.out
      clear HR hbl hbs hpos hje
      generalize hTT : sumH (r.all) = tt at HC140 HR2 ⊢
      have HTT := Aside0.mk hTT
      clear hTT
      go_wp2_with (go_at_call 140; refine HC140.out.mono ?_; rintro e w5 ⟨rfl, h1, h2⟩; have HO := Aside0.mk h1; have HG := Aside0.mk h2; clear h1 h2)
      have HBF : Below W3.heap.size W3 w5 := ⟨HG.out.os.trans HB.out.os, HG.out.tape.trans HB.out.tape, HG.out.output.trans HB.out.output, Nat.le_trans HB.out.size HG.out.size, fun k hk => (HG.out.block k (Nat.lt_of_lt_of_le hk HB.out.size) (fun e => by injection e with e; omega)).trans (HB.out.block k hk)⟩
      refine bodyPost_ret (v := .tuple #[.slice (some ⟨g, 0, none⟩) (incP tt).length c, .bool true]) (by simp [results, Try.results82, go_sem]) rfl ?_
      obtain rfl := HTT.out
      exact ⟨HB2.out.trans (HBF.mono HB2.out.size), _, _, rfl, Kd.R_lower HO.out HB2.out.size⟩
end Go.Proofs.Ytjllbahhkeglfaa.P
namespace Go.Proofs.Ytjllbahhkeglfaa.P
open Go.RowKit Go.Proofs.YtjllbahhkeglfaaW.PrintWords Go.Proofs.YtjllbahhkeglfaaW.PrintLast Go.Proofs.YtjllbahhkeglfaaW.PrintMore
set_option linter.unusedVariables false
set_option linter.unusedSimpArgs false
noncomputable def amP (l0 l1 : List Int) (cl : Bool) : List Int × Bool := match askP l0 l1 cl with
 | some r => (numTo (flatH r.all) 61, true)
 | none => ([], false)
noncomputable def smP (l0 l1 : List Int) : List Int × Bool := match askP l0 l1 false with
 | some r => (numTo (sumH r.all) 301, true)
 | none => ([], false)
theorem amP_len (l0 l1 : List Int) (cl : Bool) : (amP l0 l1 cl).1.length ≤ 4000 := by
 unfold amP
 cases askP l0 l1 cl with
 | none => simp
 | some r => have := numTo_len (flatH r.all) 61; show (numTo (flatH r.all) 61).length ≤ _; omega
theorem smP_len (l0 l1 : List Int) : (smP l0 l1).1.length ≤ 4000 := by
 unfold smP
 cases askP l0 l1 false with
 | none => simp
 | some r => have := numTo_len (sumH r.all) 301; show (numTo (sumH r.all) 301).length ≤ _; omega
theorem flat_eq {l0 : List Int} {r : Srch} (I : SInv l0 r) : incP (flatH (fgt r).all) = numTo (flatH r.all) 61 := by
 refine inc_eq (N := 61) (fun x hx => ?_)
 obtain ⟨y, hy, hxy⟩ := List.mem_flatMap.1 hx
 have := (I.good y hy).2.mem x hxy
 omega
theorem sum_eq {l0 : List Int} {r : Srch} (I : SInv l0 r) : incP (sumH (fgt r).all) = numTo (sumH r.all) 301 := by
 refine inc_eq (N := 301) (fun x hx => ?_)
 obtain ⟨y, hy, rfl⟩ := List.mem_map.1 hx
 have G := (I.good y hy).2
 have := sumL_bd y.f1 G.mem
 have := G.len
 have := G.n5
 omega
section
variable (cl : Bool) (A0 A1 : Option Addr) (c0 c1 : Nat) (l0 l1 : List Int) (w : World) (hr0 : Kd.C (Kd.int .i64) w A0 l0.length l0) (hc0 : l0.length ≤ c0) (hr1 : Kd.C (Kd.int .i64) w A1 l1.length l1) (hc1 : l1.length ≤ c1)
include hr0 hc0 hr1 hc1
theorem call76 : Calls Try.prog 76 #[.agg #[.slice A0 l0.length c0, .slice A1 l1.length c1], .bool cl] w fun e w' => ∃ (A : Option Addr) (c : Nat), e = .returned (.tuple #[.slice A (amP l0 l1 cl).1.length c, .bool (amP l0 l1 cl).2]) ∧ Kd.R (Kd.int .i64) 3 w' w.heap.size (fun _ => True) (.slice A (amP l0 l1 cl).1.length c) (amP l0 l1 cl).1 ∧ Below w.heap.size w w' := by
 refine (spec_AmountsOf.calls cl A0 A1 c0 c1 l0 l1 w hr0 hc0 hr1 hc1).mono ?_
 rintro e w' ⟨hb, h⟩
 unfold amP
 cases hS : askP l0 l1 cl with
 | none => rw [hS] at h; exact ⟨none, 0, h, Kd.R_nil _ _ _ _ _, hb⟩
 | some r => rw [hS] at h; obtain ⟨A, c, h1, h2⟩ := h; exact ⟨A, c, h1, h2, hb⟩
theorem call77 : Calls Try.prog 77 #[.agg #[.slice A0 l0.length c0, .slice A1 l1.length c1], .bool cl] w fun e w' => ∃ (A : Option Addr) (c : Nat), e = .returned (.tuple #[.slice A (amP l0 l1 cl).1.length c, .bool (amP l0 l1 cl).2]) ∧ Kd.R (Kd.int .i64) 3 w' w.heap.size (fun _ => True) (.slice A (amP l0 l1 cl).1.length c) (amP l0 l1 cl).1 ∧ Below w.heap.size w w' := by
 refine (impl_AmountsOf.calls cl A0 A1 c0 c1 l0 l1 w hr0 hc0 hr1 hc1).mono ?_
 rintro e w' ⟨hb, h⟩
 rw [reach_ask] at h
 unfold amP
 cases hS : askP l0 l1 cl with
 | none => rw [hS] at h; exact ⟨none, 0, h, Kd.R_nil _ _ _ _ _, hb⟩
 | some r => rw [hS] at h; obtain ⟨A, c, h1, h2⟩ := h; rw [flat_eq (askP_inv hS)] at h1 h2; exact ⟨A, c, h1, h2, hb⟩
theorem call81 : Calls Try.prog 81 #[.agg #[.slice A0 l0.length c0, .slice A1 l1.length c1]] w fun e w' => ∃ (A : Option Addr) (c : Nat), e = .returned (.tuple #[.slice A (smP l0 l1).1.length c, .bool (smP l0 l1).2]) ∧ Kd.R (Kd.int .i64) 3 w' w.heap.size (fun _ => True) (.slice A (smP l0 l1).1.length c) (smP l0 l1).1 ∧ Below w.heap.size w w' := by
 refine (spec_SumsOf.calls A0 A1 c0 c1 l0 l1 w hr0 hc0 hr1 hc1).mono ?_
 rintro e w' ⟨hb, h⟩
 unfold smP
 cases hS : askP l0 l1 false with
 | none => rw [hS] at h; exact ⟨none, 0, h, Kd.R_nil _ _ _ _ _, hb⟩
 | some r => rw [hS] at h; obtain ⟨A, c, h1, h2⟩ := h; exact ⟨A, c, h1, h2, hb⟩
theorem call82 : Calls Try.prog 82 #[.agg #[.slice A0 l0.length c0, .slice A1 l1.length c1]] w fun e w' => ∃ (A : Option Addr) (c : Nat), e = .returned (.tuple #[.slice A (smP l0 l1).1.length c, .bool (smP l0 l1).2]) ∧ Kd.R (Kd.int .i64) 3 w' w.heap.size (fun _ => True) (.slice A (smP l0 l1).1.length c) (smP l0 l1).1 ∧ Below w.heap.size w w' := by
 refine (impl_SumsOf.calls A0 A1 c0 c1 l0 l1 w hr0 hc0 hr1 hc1).mono ?_
 rintro e w' ⟨hb, h⟩
 rw [reach_ask] at h
 unfold smP
 cases hS : askP l0 l1 false with
 | none => rw [hS] at h; exact ⟨none, 0, h, Kd.R_nil _ _ _ _ _, hb⟩
 | some r => rw [hS] at h; obtain ⟨A, c, h1, h2⟩ := h; rw [sum_eq (askP_inv hS)] at h1 h2; exact ⟨A, c, h1, h2, hb⟩
end
end Go.Proofs.Ytjllbahhkeglfaa.P
namespace Go.Proofs.Ytjllbahhkeglfaa.P
open Go.RowKit Go.Proofs.YtjllbahhkeglfaaW.PrintWords Go.Proofs.YtjllbahhkeglfaaW.PrintLast Go.Proofs.YtjllbahhkeglfaaW.PrintMore
set_option linter.unusedVariables false
set_option linter.unusedSimpArgs false
/-- A row tells of its own block alone. -/
def Tt {α : Type} (d : Kd α) (e : TypeId) (w0 w : World) (v : Value) (xs : List α) : Prop := Kd.R d e w w0.heap.size (fun k => some k = v.ownBlock) v xs
theorem Tt.mk {α : Type} {d : Kd α} {e base : Nat} {ok : Nat → Prop} {w0 w : World} {v : Value} {xs : List α} (hd : d.E = []) (h : Kd.R d e w base ok v xs) (hb : w0.heap.size ≤ base) : Tt d e w0 w v xs := Kd.R_lower (Kd.R_tight hd h) hb
theorem Tt.below {α : Type} {d : Kd α} {e : Nat} {w0 w w1 : World} {v : Value} {xs : List α} (h : Tt d e w0 w v xs) (hb : Below w.heap.size w w1) : Tt d e w0 w1 v xs := Kd.R_below h hb
theorem Tt.kept {α : Type} {d : Kd α} {e : Nat} {w0 w w1 : World} {v : Value} {xs : List α} {S : Nat → Prop} (h : Tt d e w0 w v xs) (hk : Kept w w1 S) (hn : ∀ k, v.ownBlock = some k → ¬ S k) : Tt d e w0 w1 v xs := Kd.R_kept h hk (fun k hk => hn k hk.symm)
theorem Tt.reads {α : Type} {d : Kd α} {e : Nat} {w0 w : World} {A : Option Addr} {n c : Nat} {xs : List α} (h : Tt d e w0 w (.slice A n c) xs) : n ≤ c ∧ Kd.C d w A xs.length xs := (Kd.R_reads' h).2
end Go.Proofs.Ytjllbahhkeglfaa.P
namespace Go.Proofs.Ytjllbahhkeglfaa.P
open Go.RowKit Go.Proofs.YtjllbahhkeglfaaW.PrintWords Go.Proofs.YtjllbahhkeglfaaW.PrintLast Go.Proofs.YtjllbahhkeglfaaW.PrintMore
set_option linter.unusedVariables false
set_option linter.unusedSimpArgs false
set_option maxHeartbeats 8000000 in
set_option maxRecDepth 100000 in
theorem laws_FnExactAmountsOf.true_ (A0 : Option Addr) (c0 : Nat) (l0 : List Int) (A1 : Option Addr) (c1 : Nat) (l1 : List Int) (cl : Bool) (w : World) (hr0 : Kd.C (Kd.int .i64) w A0 l0.length l0) (hc0 : l0.length ≤ c0) (hr1 : Kd.C (Kd.int .i64) w A1 l1.length l1) (hc1 : l1.length ≤ c1) (hs : l0.length ≤ 9223372036854775807) (hh : l1.length ≤ 9223372036854775807) :
 Calls Try.prog 10 #[.agg #[.slice A0 l0.length c0, .slice A1 l1.length c1], .bool cl] w fun e w' => e = .returned (.bool true) ∧ Below w.heap.size w w' := by
 obtain ⟨t, hsz, ht⟩ := sz_vessels l0 l1 hs hh
 have HP : Hid (∀ (W : World) (B0 : Option Addr) (d0 : Nat) (B1 : Option Addr) (d1 : Nat), Kd.C (Kd.int .i64) W B0 l0.length l0 → l0.length ≤ d0 → Kd.C (Kd.int .i64) W B1 l1.length l1 → l1.length ≤ d1 → Calls Try.prog 76 #[.agg #[.slice B0 l0.length d0, .slice B1 l1.length d1], .bool cl] W fun e w' => ∃ (A : Option Addr) (c : Nat), e = .returned (.tuple #[.slice A (amP l0 l1 cl).1.length c, .bool (amP l0 l1 cl).2]) ∧ Kd.R (Kd.int .i64) 3 w' W.heap.size (fun _ => True) (.slice A (amP l0 l1 cl).1.length c) (amP l0 l1 cl).1 ∧ Below W.heap.size W w') := fun W B0 d0 B1 d1 h0 h1 h2 h3 => call76 cl B0 B1 d0 d1 l0 l1 W h0 h1 h2 h3
 have HI : Hid (∀ (W : World) (B0 : Option Addr) (d0 : Nat) (B1 : Option Addr) (d1 : Nat), Kd.C (Kd.int .i64) W B0 l0.length l0 → l0.length ≤ d0 → Kd.C (Kd.int .i64) W B1 l1.length l1 → l1.length ≤ d1 → Calls Try.prog 77 #[.agg #[.slice B0 l0.length d0, .slice B1 l1.length d1], .bool cl] W fun e w' => ∃ (A : Option Addr) (c : Nat), e = .returned (.tuple #[.slice A (amP l0 l1 cl).1.length c, .bool (amP l0 l1 cl).2]) ∧ Kd.R (Kd.int .i64) 3 w' W.heap.size (fun _ => True) (.slice A (amP l0 l1 cl).1.length c) (amP l0 l1 cl).1 ∧ Below W.heap.size W w') := fun W B0 d0 B1 d1 h0 h1 h2 h3 => call77 cl B0 B1 d0 d1 l0 l1 W h0 h1 h2 h3
 have hlen : (amP l0 l1 cl).1.length ≤ 4000 := amP_len l0 l1 cl
 generalize amP l0 l1 cl = pq at HP HI hlen
 obtain ⟨pl, q⟩ := pq
 simp only at HP HI hlen
 obtain ⟨mk, hmk, hhk⟩ := marki_held pl hlen
 obtain ⟨k1, hmk⟩ := hmk.rounds
 obtain ⟨k2, hhk⟩ := hhk.rounds
 obtain ⟨k3, heq⟩ := (eq_ints pl (by omega)).rounds
 have hu30 := Try.underlying30
 have hu33 := Try.underlying33
 have HC17 : Hid (∀ W, Below w.heap.size w W → Calls Try.prog 17 #[.agg #[.slice A0 l0.length c0, .slice A1 l1.length c1], .int .i64 1048576] W fun e w' => e = .returned (.int .i64 t) ∧ Below W.heap.size W w') := fun W hW => laws_szVessels.calls A0 c0 l0 A1 c1 l1 _ _ W (Kd.C_below hr0 hW) hc0 (Kd.C_below hr1 hW) hc1 hsz
 have b3 := below_alloc (Below.refl w.heap.size w) (.cells #[.slice A0 l0.length c0, .slice A1 l1.length c1] 30)
 have k3_ := blk_new w (.cells #[.slice A0 l0.length c0, .slice A1 l1.length c1] 30)
 have B3 := Aside0.mk b3
 have K3 := Aside0.mk k3_
 clear b3 k3_
 go_enter Try.func10, Try.ntmps10
 go_upto_region 3 with (go_at_call 17; refine (HC17.out _ B3.out).mono ?_; rintro e w1 ⟨rfl, hb⟩; have HB1 := Aside0.mk hb; clear hb)
 replace K3 := Aside0.mk (blk_below K3.out HB1.out)
 replace B3 := Aside0.mk (B3.out.trans (HB1.out.mono B3.out.size))
 clear HB1 HC17
 by_cases ht0 : t < 0
 · go_wp2_with fail
   go_ret
   exact ⟨rfl, B3.out⟩
 · obtain ⟨hs, hh⟩ := ht (by omega)
   obtain ⟨k4, hto⟩ := (to_vessels l0 l1 hs hh).rounds
   obtain ⟨k5, hev⟩ := (eq_vessels l0 l1 hs hh).rounds
   obtain ⟨rv, L0, L1, hrv, hmv⟩ := mark_vessels l0 l1 hs hh
   obtain ⟨k6, hmv⟩ := hmv.rounds
   have HC19 : Hid (∀ W, Below w.heap.size w W → Calls Try.prog 19 #[.agg #[.slice A0 l0.length c0, .slice A1 l1.length c1]] W fun e w' => ∃ (A4 : Option Addr) (c4 : Nat) (A5 : Option Addr) (c5 : Nat), e = .returned (.agg #[.slice A4 l0.length c4, .slice A5 l1.length c5]) ∧ Kd.R (Kd.int .i64) 3 w' W.heap.size (fun k_ => some k_ ≠ (Value.slice A5 l1.length c5).ownBlock) (.slice A4 l0.length c4) l0 ∧ Kd.R (Kd.int .i64) 3 w' W.heap.size (fun k_ => some k_ ≠ (Value.slice A4 l0.length c4).ownBlock) (.slice A5 l1.length c5) l1 ∧ Below W.heap.size W w') := by
    intro W hW
    refine (laws_toVessels.calls k4 A0 c0 l0 A1 c1 l1 _ _ W (Kd.C_below hr0 hW) hc0 (Kd.C_below hr1 hW) hc1 hto).mono ?_
    rintro e w' ⟨v0, v1, rfl, g0, g1, g2⟩
    obtain ⟨A4, c4, rfl⟩ := Kd.R_slice g0
    obtain ⟨A5, c5, rfl⟩ := Kd.R_slice g1
    exact ⟨_, _, _, _, rfl, g0, g1, g2⟩
   have HC14 : Hid (∀ (W : World) (B0 : Option Addr) (d0 : Nat) (B1 : Option Addr) (d1 : Nat), Kd.C (Kd.int .i64) W B0 pl.length pl → pl.length ≤ d0 → Kd.C (Kd.int .i64) W B1 pl.length pl → pl.length ≤ d1 → Calls Try.prog 78 #[.slice B0 pl.length d0, .slice B1 pl.length d1] W fun e w' => e = .returned (.bool true) ∧ Below W.heap.size W w') := fun W B0 d0 B1 d1 h0 h1 h2 h3 => (laws_eqIntS.calls k3 B0 d0 pl B1 d1 pl _ W h0 h1 h2 h3 heq).mono fun e w' h => ⟨h.1, h.2.below⟩
   have HMV := Aside0.mk hmv
   have HMK := Aside0.mk hmk
   have HHK := Aside0.mk hhk
   have HEV := Aside0.mk hev
   have HLEN := Lib.hid hlen
   have HTO := Aside0.mk hto
   have HS := Lib.hid hs
   have HH := Lib.hid hh
   clear hsz ht hmk hhk heq hto hev hmv hr0 hc0 hr1 hc1 hs hh hlen
   have hq : (q != q) = false := by simp
   -- the reference's plan
   have h30 := blk_cell K3.out 0
   have h31 := blk_cell K3.out 1
   simp at h30 h31
   go_upto_region 6 with (first
    | (go_at_call 19; refine (HC19.out _ B3.out).mono ?_; rintro e w2 ⟨A4, c4, A5, c5, rfl, g0, g1, hb⟩; have HX0 := Aside0.mk (Kd.R_reads' g0).2; have HX1 := Aside0.mk (Kd.R_reads' g1).2; have HB2 := Aside0.mk hb; clear g0 g1 hb)
    | (go_at_call 76; refine (HP.out _ _ _ _ _ HX0.out.2 HX0.out.1 HX1.out.2 HX1.out.1).mono ?_; rintro e w3 ⟨A8, c8, rfl, g0, hb⟩; have HV8 := Aside0.mk g0; have HB3 := Aside0.mk hb; clear g0 hb))
   have hb3 := HB2.out.trans (HB3.out.mono HB2.out.size)
   replace K3 := Aside0.mk (blk_below K3.out hb3)
   have HW3 := Lib.hid (blk_lt K3.out)
   have b2 := B3.out.trans (HB2.out.mono B3.out.size)
   replace B3 := Aside0.mk (b2.trans (HB3.out.mono b2.size))
   have O8 := Lib.hid (Kd.R_lt HV8.out)
   replace HV8 := Aside0.mk (Tt.mk (w0 := w) rfl HV8.out b2.size)
   clear hb3 b2 HX0 HX1 HB2 HB3 h30 h31
   -- the program's vessels
   have h30 := blk_cell K3.out 0
   have h31 := blk_cell K3.out 1
   simp at h30 h31
   go_upto_region 7 with (go_at_call 19; refine (HC19.out _ B3.out).mono ?_; rintro e w4 ⟨A4, c4, A5, c5, rfl, g0, g1, hb⟩; have HX0 := Aside0.mk g0; have HX1 := Aside0.mk g1; have HB4 := Aside0.mk hb; clear g0 g1 hb)
   clear h30 h31
   have OX0 := Lib.hid (fun k hk => (⟨Kd.R_base HX0.out k hk, Kd.R_lt HX0.out k hk⟩ : w3.heap.size ≤ k ∧ k < w4.heap.size))
   have OX1 := Lib.hid (fun k hk => (⟨Kd.R_base HX1.out k hk, Kd.R_lt HX1.out k hk⟩ : w3.heap.size ≤ k ∧ k < w4.heap.size))
   have OXX := Lib.hid (fun k (hk : (Value.slice A4 l0.length c4).ownBlock = some k) => (Kd.R_tight2 (d := Kd.int .i64) rfl HX0.out).1 k hk)
   replace K3 := Aside0.mk (blk_alloc (blk_below K3.out HB4.out) (.cells #[.slice A4 l0.length c4, .slice A5 l1.length c5] 33))
   have HX0 := Aside0.mk (Tt.below (Tt.mk (w0 := w) rfl HX0.out B3.out.size) (below_alloc (Below.refl _ _) (.cells #[.slice A4 l0.length c4, .slice A5 l1.length c5] 33)))
   have HX1 := Aside0.mk (Tt.below (Tt.mk (w0 := w) rfl HX1.out B3.out.size) (below_alloc (Below.refl _ _) (.cells #[.slice A4 l0.length c4, .slice A5 l1.length c5] 33)))
   replace HV8 := Aside0.mk (HV8.out.below (below_alloc HB4.out (.cells #[.slice A4 l0.length c4, .slice A5 l1.length c5] 33)))
   have K10 := Aside0.mk (blk_new w4 (.cells #[.slice A4 l0.length c4, .slice A5 l1.length c5] 33))
   replace B3 := Aside0.mk (below_alloc (B3.out.trans (HB4.out.mono B3.out.size)) (.cells #[.slice A4 l0.length c4, .slice A5 l1.length c5] 33))
   have hn3 : w3.heap.size ≤ w4.heap.size := HB4.out.size
   have hn5 : (w4.alloc (.cells #[.slice A4 l0.length c4, .slice A5 l1.length c5] 33)).heap.size = w4.heap.size + 1 := by simp
   generalize w4.alloc (.cells #[.slice A4 l0.length c4, .slice A5 l1.length c5] 33) = W5 at HX0 HX1 HV8 K3 K10 B3 hn5 ⊢
   have HN3 := Lib.hid hn3
   have HN5 := Lib.hid hn5
   generalize w4.heap.size = n4 at *
   clear hn3 hn5 HB4
   have h100 := blk_cell K10.out 0
   have h101 := blk_cell K10.out 1
   simp at h100 h101
   -- the program's plan
   go_upto_region 8 with (go_at_call 77; refine (HI.out _ _ _ _ _ HX0.out.reads.2 HX0.out.reads.1 HX1.out.reads.2 HX1.out.reads.1).mono ?_; rintro e w6 ⟨A11, c11, rfl, g0, hb⟩; have HV11 := Aside0.mk g0; have HB6 := Aside0.mk hb; clear g0 hb)
   clear h100 h101
   have O11 := Lib.hid (fun k hk => (⟨Kd.R_base HV11.out k hk, Kd.R_lt HV11.out k hk⟩ : W5.heap.size ≤ k ∧ k < w6.heap.size))
   replace HV11 := Aside0.mk (Tt.mk (w0 := w) rfl HV11.out B3.out.size)
   replace HV8 := Aside0.mk (HV8.out.below HB6.out)
   replace HX0 := Aside0.mk (HX0.out.below HB6.out)
   replace HX1 := Aside0.mk (HX1.out.below HB6.out)
   replace K3 := Aside0.mk (blk_below K3.out HB6.out)
   replace K10 := Aside0.mk (blk_below K10.out HB6.out)
   replace B3 := Aside0.mk (B3.out.trans (HB6.out.mono B3.out.size))
   clear HB6
   go_upto_region 10 with (go_at_call 78; refine (HC14.out _ _ _ _ _ HV11.out.reads.2 HV11.out.reads.1 HV8.out.reads.2 HV8.out.reads.1).mono ?_; rintro e w7 ⟨rfl, hb⟩; have HB7 := Aside0.mk hb; clear hb)
   replace HV8 := Aside0.mk (HV8.out.below HB7.out)
   replace HV11 := Aside0.mk (HV11.out.below HB7.out)
   replace HX0 := Aside0.mk (HX0.out.below HB7.out)
   replace HX1 := Aside0.mk (HX1.out.below HB7.out)
   replace K3 := Aside0.mk (blk_below K3.out HB7.out)
   replace K10 := Aside0.mk (blk_below K10.out HB7.out)
   replace B3 := Aside0.mk (B3.out.trans (HB7.out.mono B3.out.size))
   replace O11 := Lib.hid (fun k hk => (⟨by have := (O11.out k hk).1; have := HN5.out; omega, Nat.lt_of_lt_of_le (O11.out k hk).2 HB7.out.size⟩ : n4 < k ∧ k < w7.heap.size))
   clear HB7 HN5
   have h100 := blk_cell K10.out 0
   have h101 := blk_cell K10.out 1
   have h30 := blk_cell K3.out 0
   have h31 := blk_cell K3.out 1
   simp at h100 h101 h30 h31
   have HD : Hid (∀ W, Below w7.heap.size w7 W → W.cell? ⟨n4, 0, none⟩ = some (.slice A4 l0.length c4) ∧ W.cell? ⟨n4, 1, none⟩ = some (.slice A5 l1.length c5) ∧ W.cell? ⟨w.heap.size, 0, none⟩ = some (.slice A0 l0.length c0) ∧ W.cell? ⟨w.heap.size, 1, none⟩ = some (.slice A1 l1.length c1)) := fun W hW => ⟨pw_cell_below hW h100, pw_cell_below hW h101, pw_cell_below hW h30, pw_cell_below hW h31⟩
   have HC21 : Hid (∀ (W : World) (B0 : Option Addr) (d0 : Nat) (B1 : Option Addr) (d1 : Nat), Below w7.heap.size w7 W → Kd.C (Kd.int .i64) W B0 l0.length l0 → l0.length ≤ d0 → Kd.C (Kd.int .i64) W B1 l1.length l1 → l1.length ≤ d1 → Calls Try.prog 21 #[.agg #[.slice A4 l0.length c4, .slice A5 l1.length c5], .agg #[.slice B0 l0.length d0, .slice B1 l1.length d1]] W fun e w' => e = .returned (.bool true) ∧ Below W.heap.size W w' ∧ Below w7.heap.size w7 w') := by
    intro W B0 d0 B1 d1 hW g0 g1 g2 g3
    refine (laws_eqVessels.calls k5 A4 c4 l0 A5 c5 l1 B0 d0 l0 B1 d1 l1 _ W (HX0.out.below hW).reads.2 (HX0.out.below hW).reads.1 (HX1.out.below hW).reads.2 (HX1.out.below hW).reads.1 g0 g1 g2 g3 HEV.out).mono ?_
    rintro e w' ⟨he, hb⟩
    exact ⟨he, hb, below_step hW hb⟩
   go_region_held3 (fun w' => w'.cell? ⟨n4, 0, none⟩ = some (.slice A4 l0.length c4) ∧ w'.cell? ⟨n4, 1, none⟩ = some (.slice A5 l1.length c5) ∧ w'.cell? ⟨w.heap.size, 0, none⟩ = some (.slice A0 l0.length c0) ∧ w'.cell? ⟨w.heap.size, 1, none⟩ = some (.slice A1 l1.length c1))
    (first | exact ⟨h100, h101, h30, h31⟩ | exact HD.out _ HBX.out | go_keep)
    (first
      | (go_at_call 19; refine (HC19.out _ (below_drew B3.out)).mono ?_; rintro e w8 ⟨B4, d4, B5, d5, rfl, g0, g1, hb⟩; have HY0 := Aside0.mk (Kd.R_reads' g0).2; have HY1 := Aside0.mk (Kd.R_reads' g1).2; have HBX := Aside0.mk (below_step (below_drew (Below.refl w7.heap.size w7)) hb); clear g0 g1 hb)
      | (go_at_call 21; refine (HC21.out _ _ _ _ _ HBX.out HY0.out.2 HY0.out.1 HY1.out.2 HY1.out.1).mono ?_; rintro e w9 ⟨rfl, hb, hbx⟩; clear HY0 HY1 HBX; have HBX := Aside0.mk hbx; clear hb hbx))
   go_upto_region 13 with fail
   replace HV8 := Aside0.mk (HV8.out.below HBX.out)
   replace HV11 := Aside0.mk (HV11.out.below HBX.out)
   replace K3 := Aside0.mk (blk_below K3.out HBX.out)
   replace B3 := Aside0.mk (B3.out.trans (HBX.out.mono B3.out.size))
   replace HX0 := Aside0.mk (HX0.out.below HBX.out)
   replace HX1 := Aside0.mk (HX1.out.below HBX.out)
   replace K10 := Aside0.mk (blk_below K10.out HBX.out)
   clear HBX HD HC21 h100 h101 h30 h31
   have h100 := blk_cell K10.out 0
   have h101 := blk_cell K10.out 1
   simp at h100 h101
   have hrv0 : ¬ rv < 0 := by omega
   clear hrv
   -- marks in the program's vessels
   go_upto_region 14 with (go_at_call 22; refine (laws_markVessels.calls k6 (fun k => some k = (Value.slice A4 l0.length c4).ownBlock) (.slice A4 l0.length c4) l0 (fun k => some k = (Value.slice A5 l1.length c5).ownBlock) (.slice A5 l1.length c5) l1 1 rv L0 L1 w _ B3.out HX0.out (fun k h1 h2 => (OXX.out k h1.symm).2 h2) HX1.out (fun k h1 h2 => (OXX.out k h2.symm).2 h1) HMV.out).mono ?_; rintro e w10 ⟨rfl, _, _, hB, hk⟩; have HBM := Aside0.mk hB; have HKM := Aside0.mk hk; clear hB hk)
   replace HV8 := Aside0.mk (HV8.out.kept HKM.out (fun k hk h => by have h8 := O8.out k hk; rcases h with h | h; (have := (OX0.out k h.symm).1; omega); (have := (OX1.out k h.symm).1; omega)))
   replace HV11 := Aside0.mk (HV11.out.kept HKM.out (fun k hk h => by have h8 := (O11.out k hk).1; rcases h with h | h; (have := (OX0.out k h.symm).2; omega); (have := (OX1.out k h.symm).2; omega)))
   replace K3 := Aside0.mk (blk_kept K3.out HKM.out (fun h => by have h8 := HW3.out; rcases h with h | h; (have := (OX0.out _ h.symm).1; omega); (have := (OX1.out _ h.symm).1; omega)))
   replace B3 := HBM
   clear HBM HKM HX0 HX1 K10 h100 h101 OXX HMV
   go_upto_region 16 with (go_at_call 78; refine (HC14.out _ _ _ _ _ HV11.out.reads.2 HV11.out.reads.1 HV8.out.reads.2 HV8.out.reads.1).mono ?_; rintro e w11 ⟨rfl, hb⟩; have HB7 := Aside0.mk hb; clear hb)
   replace HV8 := Aside0.mk (HV8.out.below HB7.out)
   replace HV11 := Aside0.mk (HV11.out.below HB7.out)
   replace K3 := Aside0.mk (blk_below K3.out HB7.out)
   replace B3 := Aside0.mk (B3.out.trans (HB7.out.mono B3.out.size))
   clear HB7
   -- marks in the program's plan
   go_upto_region 18 with (go_at_call 79; refine (laws_markIntS.calls k1 (fun k => some k = (Value.slice A11 pl.length c11).ownBlock) (.slice A11 pl.length c11) pl 1 _ mk w _ B3.out HV11.out HMK.out).mono ?_; rintro e w12 ⟨rfl, hR, hB, hk⟩; have HR := Aside0.mk hR; have HBM := Aside0.mk hB; have HKM := Aside0.mk hk; clear hR hB hk)
   replace HV8 := Aside0.mk (HV8.out.kept HKM.out (fun k hk h => by have h8 := O8.out k hk; have := (O11.out k h.symm).1; have := HN3.out; omega))
   replace K3 := Aside0.mk (blk_kept K3.out HKM.out (fun h => by have h8 := HW3.out; have := (O11.out _ h.symm).1; have := HN3.out; omega))
   replace HV11 : Aside0 (Tt (Kd.int .i64) 3 w w12 (.slice A11 pl.length c11) mk) := Aside0.mk (Tt.mk rfl HR.out (Nat.le_refl _))
   replace B3 := HBM
   clear HR HBM HKM HMK
   have HC16 : Hid (∀ (W : World), Tt (Kd.int .i64) 3 w W (.slice A11 pl.length c11) mk → Calls Try.prog 80 #[.slice A11 pl.length c11, .int .i64 1] W fun e w' => e = .returned (.int .i64 (1 + (pl.length : Int))) ∧ Below W.heap.size W w') := by
    intro W h
    have e := (Kd.R_reads' h).1
    have hc := laws_heldIntS.calls k2 A11 c11 mk 1 _ W h.reads.2 (e ▸ h.reads.1) HHK.out
    rw [← e] at hc
    exact hc.mono fun e w' ⟨h1, h2⟩ => ⟨h1, h2.below⟩
   have hpos : ¬ (1 + (pl.length : Int)) < 0 := by omega
   go_upto_region 24 with (go_at_call 80; refine (HC16.out _ HV11.out).mono ?_; rintro e w13 ⟨rfl, hb⟩; have HB7 := Aside0.mk hb; clear hb)
   replace HV8 := Aside0.mk (HV8.out.below HB7.out)
   replace HV11 := Aside0.mk (HV11.out.below HB7.out)
   replace K3 := Aside0.mk (blk_below K3.out HB7.out)
   replace B3 := Aside0.mk (B3.out.trans (HB7.out.mono B3.out.size))
   clear HB7
   have h30 := blk_cell K3.out 0
   have h31 := blk_cell K3.out 1
   simp at h30 h31
   go_upto_region 25 with (first
    | (go_at_call 19; refine (HC19.out _ B3.out).mono ?_; rintro e w14 ⟨B4, d4, B5, d5, rfl, g0, g1, hb⟩; have HX0 := Aside0.mk (Kd.R_reads' g0).2; have HX1 := Aside0.mk (Kd.R_reads' g1).2; have HB2 := Aside0.mk hb; clear g0 g1 hb)
    | (go_at_call 77; refine (HI.out _ _ _ _ _ HX0.out.2 HX0.out.1 HX1.out.2 HX1.out.1).mono ?_; rintro e w15 ⟨A16, c16, rfl, g0, hb⟩; have HV16 := Aside0.mk g0; have HB3 := Aside0.mk hb; clear g0 hb))
   have hb3 := HB2.out.trans (HB3.out.mono HB2.out.size)
   replace HV8 := Aside0.mk (HV8.out.below hb3)
   replace HV11 := Aside0.mk (HV11.out.below hb3)
   replace K3 := Aside0.mk (blk_below K3.out hb3)
   replace B3 := Aside0.mk (B3.out.trans (hb3.mono B3.out.size))
   clear HB2 HB3 hb3 h30 h31 HX0 HX1
   go_upto_region 27 with (go_at_call 78; refine (HC14.out _ _ _ _ _ (Kd.R_reads' HV16.out).2.2 (Kd.R_reads' HV16.out).2.1 HV8.out.reads.2 HV8.out.reads.1).mono ?_; rintro e w16 ⟨rfl, hb⟩; have HB7 := Aside0.mk hb; clear hb)
   replace HV8 := Aside0.mk (HV8.out.below HB7.out)
   replace HV11 := Aside0.mk (HV11.out.below HB7.out)
   replace K3 := Aside0.mk (blk_below K3.out HB7.out)
   replace B3 := Aside0.mk (B3.out.trans (HB7.out.mono B3.out.size))
   clear HB7 HV16
   go_wp2_with (go_at_call 80; refine (HC16.out _ HV11.out).mono ?_; rintro e w17 ⟨rfl, hb⟩; have HB7 := Aside0.mk (B3.out.trans (hb.mono B3.out.size)); clear hb)
   go_ret
   exact ⟨rfl, HB7.out⟩
end Go.Proofs.Ytjllbahhkeglfaa.P
namespace Go.Proofs.Ytjllbahhkeglfaa.P
open Go.RowKit Go.Proofs.YtjllbahhkeglfaaW.PrintWords Go.Proofs.YtjllbahhkeglfaaW.PrintLast Go.Proofs.YtjllbahhkeglfaaW.PrintMore
set_option linter.unusedVariables false
set_option linter.unusedSimpArgs false
set_option maxHeartbeats 8000000 in
set_option maxRecDepth 100000 in
theorem laws_FnExactSumsOf.true_ (A0 : Option Addr) (c0 : Nat) (l0 : List Int) (A1 : Option Addr) (c1 : Nat) (l1 : List Int) (w : World) (hr0 : Kd.C (Kd.int .i64) w A0 l0.length l0) (hc0 : l0.length ≤ c0) (hr1 : Kd.C (Kd.int .i64) w A1 l1.length l1) (hc1 : l1.length ≤ c1) (hs : l0.length ≤ 9223372036854775807) (hh : l1.length ≤ 9223372036854775807) :
 Calls Try.prog 11 #[.agg #[.slice A0 l0.length c0, .slice A1 l1.length c1]] w fun e w' => e = .returned (.bool true) ∧ Below w.heap.size w w' := by
 obtain ⟨t, hsz, ht⟩ := sz_vessels l0 l1 hs hh
 have HP : Hid (∀ (W : World) (B0 : Option Addr) (d0 : Nat) (B1 : Option Addr) (d1 : Nat), Kd.C (Kd.int .i64) W B0 l0.length l0 → l0.length ≤ d0 → Kd.C (Kd.int .i64) W B1 l1.length l1 → l1.length ≤ d1 → Calls Try.prog 81 #[.agg #[.slice B0 l0.length d0, .slice B1 l1.length d1]] W fun e w' => ∃ (A : Option Addr) (c : Nat), e = .returned (.tuple #[.slice A (smP l0 l1).1.length c, .bool (smP l0 l1).2]) ∧ Kd.R (Kd.int .i64) 3 w' W.heap.size (fun _ => True) (.slice A (smP l0 l1).1.length c) (smP l0 l1).1 ∧ Below W.heap.size W w') := fun W B0 d0 B1 d1 h0 h1 h2 h3 => call81 B0 B1 d0 d1 l0 l1 W h0 h1 h2 h3
 have HI : Hid (∀ (W : World) (B0 : Option Addr) (d0 : Nat) (B1 : Option Addr) (d1 : Nat), Kd.C (Kd.int .i64) W B0 l0.length l0 → l0.length ≤ d0 → Kd.C (Kd.int .i64) W B1 l1.length l1 → l1.length ≤ d1 → Calls Try.prog 82 #[.agg #[.slice B0 l0.length d0, .slice B1 l1.length d1]] W fun e w' => ∃ (A : Option Addr) (c : Nat), e = .returned (.tuple #[.slice A (smP l0 l1).1.length c, .bool (smP l0 l1).2]) ∧ Kd.R (Kd.int .i64) 3 w' W.heap.size (fun _ => True) (.slice A (smP l0 l1).1.length c) (smP l0 l1).1 ∧ Below W.heap.size W w') := fun W B0 d0 B1 d1 h0 h1 h2 h3 => call82 B0 B1 d0 d1 l0 l1 W h0 h1 h2 h3
 have hlen : (smP l0 l1).1.length ≤ 4000 := smP_len l0 l1
 generalize smP l0 l1 = pq at HP HI hlen
 obtain ⟨pl, q⟩ := pq
 simp only at HP HI hlen
 obtain ⟨mk, hmk, hhk⟩ := marki_held pl hlen
 obtain ⟨k1, hmk⟩ := hmk.rounds
 obtain ⟨k2, hhk⟩ := hhk.rounds
 obtain ⟨k3, heq⟩ := (eq_ints pl (by omega)).rounds
 have hu30 := Try.underlying30
 have hu33 := Try.underlying33
 have HC17 : Hid (∀ W, Below w.heap.size w W → Calls Try.prog 17 #[.agg #[.slice A0 l0.length c0, .slice A1 l1.length c1], .int .i64 1048576] W fun e w' => e = .returned (.int .i64 t) ∧ Below W.heap.size W w') := fun W hW => laws_szVessels.calls A0 c0 l0 A1 c1 l1 _ _ W (Kd.C_below hr0 hW) hc0 (Kd.C_below hr1 hW) hc1 hsz
 have b3 := below_alloc (Below.refl w.heap.size w) (.cells #[.slice A0 l0.length c0, .slice A1 l1.length c1] 30)
 have k3_ := blk_new w (.cells #[.slice A0 l0.length c0, .slice A1 l1.length c1] 30)
 have B3 := Aside0.mk b3
 have K3 := Aside0.mk k3_
 clear b3 k3_
 go_enter Try.func11, Try.ntmps11
 go_upto_region 3 with (go_at_call 17; refine (HC17.out _ B3.out).mono ?_; rintro e w1 ⟨rfl, hb⟩; have HB1 := Aside0.mk hb; clear hb)
 replace K3 := Aside0.mk (blk_below K3.out HB1.out)
 replace B3 := Aside0.mk (B3.out.trans (HB1.out.mono B3.out.size))
 clear HB1 HC17
 by_cases ht0 : t < 0
 · go_wp2_with fail
   go_ret
   exact ⟨rfl, B3.out⟩
 · obtain ⟨hs, hh⟩ := ht (by omega)
   obtain ⟨k4, hto⟩ := (to_vessels l0 l1 hs hh).rounds
   obtain ⟨k5, hev⟩ := (eq_vessels l0 l1 hs hh).rounds
   obtain ⟨rv, L0, L1, hrv, hmv⟩ := mark_vessels l0 l1 hs hh
   obtain ⟨k6, hmv⟩ := hmv.rounds
   have HC19 : Hid (∀ W, Below w.heap.size w W → Calls Try.prog 19 #[.agg #[.slice A0 l0.length c0, .slice A1 l1.length c1]] W fun e w' => ∃ (A4 : Option Addr) (c4 : Nat) (A5 : Option Addr) (c5 : Nat), e = .returned (.agg #[.slice A4 l0.length c4, .slice A5 l1.length c5]) ∧ Kd.R (Kd.int .i64) 3 w' W.heap.size (fun k_ => some k_ ≠ (Value.slice A5 l1.length c5).ownBlock) (.slice A4 l0.length c4) l0 ∧ Kd.R (Kd.int .i64) 3 w' W.heap.size (fun k_ => some k_ ≠ (Value.slice A4 l0.length c4).ownBlock) (.slice A5 l1.length c5) l1 ∧ Below W.heap.size W w') := by
    intro W hW
    refine (laws_toVessels.calls k4 A0 c0 l0 A1 c1 l1 _ _ W (Kd.C_below hr0 hW) hc0 (Kd.C_below hr1 hW) hc1 hto).mono ?_
    rintro e w' ⟨v0, v1, rfl, g0, g1, g2⟩
    obtain ⟨A4, c4, rfl⟩ := Kd.R_slice g0
    obtain ⟨A5, c5, rfl⟩ := Kd.R_slice g1
    exact ⟨_, _, _, _, rfl, g0, g1, g2⟩
   have HC14 : Hid (∀ (W : World) (B0 : Option Addr) (d0 : Nat) (B1 : Option Addr) (d1 : Nat), Kd.C (Kd.int .i64) W B0 pl.length pl → pl.length ≤ d0 → Kd.C (Kd.int .i64) W B1 pl.length pl → pl.length ≤ d1 → Calls Try.prog 78 #[.slice B0 pl.length d0, .slice B1 pl.length d1] W fun e w' => e = .returned (.bool true) ∧ Below W.heap.size W w') := fun W B0 d0 B1 d1 h0 h1 h2 h3 => (laws_eqIntS.calls k3 B0 d0 pl B1 d1 pl _ W h0 h1 h2 h3 heq).mono fun e w' h => ⟨h.1, h.2.below⟩
   have HMV := Aside0.mk hmv
   have HMK := Aside0.mk hmk
   have HHK := Aside0.mk hhk
   have HEV := Aside0.mk hev
   have HLEN := Lib.hid hlen
   have HTO := Aside0.mk hto
   have HS := Lib.hid hs
   have HH := Lib.hid hh
   clear hsz ht hmk hhk heq hto hev hmv hr0 hc0 hr1 hc1 hs hh hlen
   have hq : (q != q) = false := by simp
   -- the reference's plan
   have h30 := blk_cell K3.out 0
   have h31 := blk_cell K3.out 1
   simp at h30 h31
   go_upto_region 6 with (first
    | (go_at_call 19; refine (HC19.out _ B3.out).mono ?_; rintro e w2 ⟨A4, c4, A5, c5, rfl, g0, g1, hb⟩; have HX0 := Aside0.mk (Kd.R_reads' g0).2; have HX1 := Aside0.mk (Kd.R_reads' g1).2; have HB2 := Aside0.mk hb; clear g0 g1 hb)
    | (go_at_call 81; refine (HP.out _ _ _ _ _ HX0.out.2 HX0.out.1 HX1.out.2 HX1.out.1).mono ?_; rintro e w3 ⟨A8, c8, rfl, g0, hb⟩; have HV8 := Aside0.mk g0; have HB3 := Aside0.mk hb; clear g0 hb))
   have hb3 := HB2.out.trans (HB3.out.mono HB2.out.size)
   replace K3 := Aside0.mk (blk_below K3.out hb3)
   have HW3 := Lib.hid (blk_lt K3.out)
   have b2 := B3.out.trans (HB2.out.mono B3.out.size)
   replace B3 := Aside0.mk (b2.trans (HB3.out.mono b2.size))
   have O8 := Lib.hid (Kd.R_lt HV8.out)
   replace HV8 := Aside0.mk (Tt.mk (w0 := w) rfl HV8.out b2.size)
   clear hb3 b2 HX0 HX1 HB2 HB3 h30 h31
   -- the program's vessels
   have h30 := blk_cell K3.out 0
   have h31 := blk_cell K3.out 1
   simp at h30 h31
   go_upto_region 7 with (go_at_call 19; refine (HC19.out _ B3.out).mono ?_; rintro e w4 ⟨A4, c4, A5, c5, rfl, g0, g1, hb⟩; have HX0 := Aside0.mk g0; have HX1 := Aside0.mk g1; have HB4 := Aside0.mk hb; clear g0 g1 hb)
   clear h30 h31
   have OX0 := Lib.hid (fun k hk => (⟨Kd.R_base HX0.out k hk, Kd.R_lt HX0.out k hk⟩ : w3.heap.size ≤ k ∧ k < w4.heap.size))
   have OX1 := Lib.hid (fun k hk => (⟨Kd.R_base HX1.out k hk, Kd.R_lt HX1.out k hk⟩ : w3.heap.size ≤ k ∧ k < w4.heap.size))
   have OXX := Lib.hid (fun k (hk : (Value.slice A4 l0.length c4).ownBlock = some k) => (Kd.R_tight2 (d := Kd.int .i64) rfl HX0.out).1 k hk)
   replace K3 := Aside0.mk (blk_alloc (blk_below K3.out HB4.out) (.cells #[.slice A4 l0.length c4, .slice A5 l1.length c5] 33))
   have HX0 := Aside0.mk (Tt.below (Tt.mk (w0 := w) rfl HX0.out B3.out.size) (below_alloc (Below.refl _ _) (.cells #[.slice A4 l0.length c4, .slice A5 l1.length c5] 33)))
   have HX1 := Aside0.mk (Tt.below (Tt.mk (w0 := w) rfl HX1.out B3.out.size) (below_alloc (Below.refl _ _) (.cells #[.slice A4 l0.length c4, .slice A5 l1.length c5] 33)))
   replace HV8 := Aside0.mk (HV8.out.below (below_alloc HB4.out (.cells #[.slice A4 l0.length c4, .slice A5 l1.length c5] 33)))
   have K10 := Aside0.mk (blk_new w4 (.cells #[.slice A4 l0.length c4, .slice A5 l1.length c5] 33))
   replace B3 := Aside0.mk (below_alloc (B3.out.trans (HB4.out.mono B3.out.size)) (.cells #[.slice A4 l0.length c4, .slice A5 l1.length c5] 33))
   have hn3 : w3.heap.size ≤ w4.heap.size := HB4.out.size
   have hn5 : (w4.alloc (.cells #[.slice A4 l0.length c4, .slice A5 l1.length c5] 33)).heap.size = w4.heap.size + 1 := by simp
   generalize w4.alloc (.cells #[.slice A4 l0.length c4, .slice A5 l1.length c5] 33) = W5 at HX0 HX1 HV8 K3 K10 B3 hn5 ⊢
   have HN3 := Lib.hid hn3
   have HN5 := Lib.hid hn5
   generalize w4.heap.size = n4 at *
   clear hn3 hn5 HB4
   have h100 := blk_cell K10.out 0
   have h101 := blk_cell K10.out 1
   simp at h100 h101
   -- the program's plan
   go_upto_region 8 with (go_at_call 82; refine (HI.out _ _ _ _ _ HX0.out.reads.2 HX0.out.reads.1 HX1.out.reads.2 HX1.out.reads.1).mono ?_; rintro e w6 ⟨A11, c11, rfl, g0, hb⟩; have HV11 := Aside0.mk g0; have HB6 := Aside0.mk hb; clear g0 hb)
   clear h100 h101
   have O11 := Lib.hid (fun k hk => (⟨Kd.R_base HV11.out k hk, Kd.R_lt HV11.out k hk⟩ : W5.heap.size ≤ k ∧ k < w6.heap.size))
   replace HV11 := Aside0.mk (Tt.mk (w0 := w) rfl HV11.out B3.out.size)
   replace HV8 := Aside0.mk (HV8.out.below HB6.out)
   replace HX0 := Aside0.mk (HX0.out.below HB6.out)
   replace HX1 := Aside0.mk (HX1.out.below HB6.out)
   replace K3 := Aside0.mk (blk_below K3.out HB6.out)
   replace K10 := Aside0.mk (blk_below K10.out HB6.out)
   replace B3 := Aside0.mk (B3.out.trans (HB6.out.mono B3.out.size))
   clear HB6
   go_upto_region 10 with (go_at_call 78; refine (HC14.out _ _ _ _ _ HV11.out.reads.2 HV11.out.reads.1 HV8.out.reads.2 HV8.out.reads.1).mono ?_; rintro e w7 ⟨rfl, hb⟩; have HB7 := Aside0.mk hb; clear hb)
   replace HV8 := Aside0.mk (HV8.out.below HB7.out)
   replace HV11 := Aside0.mk (HV11.out.below HB7.out)
   replace HX0 := Aside0.mk (HX0.out.below HB7.out)
   replace HX1 := Aside0.mk (HX1.out.below HB7.out)
   replace K3 := Aside0.mk (blk_below K3.out HB7.out)
   replace K10 := Aside0.mk (blk_below K10.out HB7.out)
   replace B3 := Aside0.mk (B3.out.trans (HB7.out.mono B3.out.size))
   replace O11 := Lib.hid (fun k hk => (⟨by have := (O11.out k hk).1; have := HN5.out; omega, Nat.lt_of_lt_of_le (O11.out k hk).2 HB7.out.size⟩ : n4 < k ∧ k < w7.heap.size))
   clear HB7 HN5
   have h100 := blk_cell K10.out 0
   have h101 := blk_cell K10.out 1
   have h30 := blk_cell K3.out 0
   have h31 := blk_cell K3.out 1
   simp at h100 h101 h30 h31
   have HD : Hid (∀ W, Below w7.heap.size w7 W → W.cell? ⟨n4, 0, none⟩ = some (.slice A4 l0.length c4) ∧ W.cell? ⟨n4, 1, none⟩ = some (.slice A5 l1.length c5) ∧ W.cell? ⟨w.heap.size, 0, none⟩ = some (.slice A0 l0.length c0) ∧ W.cell? ⟨w.heap.size, 1, none⟩ = some (.slice A1 l1.length c1)) := fun W hW => ⟨pw_cell_below hW h100, pw_cell_below hW h101, pw_cell_below hW h30, pw_cell_below hW h31⟩
   have HC21 : Hid (∀ (W : World) (B0 : Option Addr) (d0 : Nat) (B1 : Option Addr) (d1 : Nat), Below w7.heap.size w7 W → Kd.C (Kd.int .i64) W B0 l0.length l0 → l0.length ≤ d0 → Kd.C (Kd.int .i64) W B1 l1.length l1 → l1.length ≤ d1 → Calls Try.prog 21 #[.agg #[.slice A4 l0.length c4, .slice A5 l1.length c5], .agg #[.slice B0 l0.length d0, .slice B1 l1.length d1]] W fun e w' => e = .returned (.bool true) ∧ Below W.heap.size W w' ∧ Below w7.heap.size w7 w') := by
    intro W B0 d0 B1 d1 hW g0 g1 g2 g3
    refine (laws_eqVessels.calls k5 A4 c4 l0 A5 c5 l1 B0 d0 l0 B1 d1 l1 _ W (HX0.out.below hW).reads.2 (HX0.out.below hW).reads.1 (HX1.out.below hW).reads.2 (HX1.out.below hW).reads.1 g0 g1 g2 g3 HEV.out).mono ?_
    rintro e w' ⟨he, hb⟩
    exact ⟨he, hb, below_step hW hb⟩
   go_region_held3 (fun w' => w'.cell? ⟨n4, 0, none⟩ = some (.slice A4 l0.length c4) ∧ w'.cell? ⟨n4, 1, none⟩ = some (.slice A5 l1.length c5) ∧ w'.cell? ⟨w.heap.size, 0, none⟩ = some (.slice A0 l0.length c0) ∧ w'.cell? ⟨w.heap.size, 1, none⟩ = some (.slice A1 l1.length c1))
    (first | exact ⟨h100, h101, h30, h31⟩ | exact HD.out _ HBX.out | go_keep)
    (first
      | (go_at_call 19; refine (HC19.out _ (below_drew B3.out)).mono ?_; rintro e w8 ⟨B4, d4, B5, d5, rfl, g0, g1, hb⟩; have HY0 := Aside0.mk (Kd.R_reads' g0).2; have HY1 := Aside0.mk (Kd.R_reads' g1).2; have HBX := Aside0.mk (below_step (below_drew (Below.refl w7.heap.size w7)) hb); clear g0 g1 hb)
      | (go_at_call 21; refine (HC21.out _ _ _ _ _ HBX.out HY0.out.2 HY0.out.1 HY1.out.2 HY1.out.1).mono ?_; rintro e w9 ⟨rfl, hb, hbx⟩; clear HY0 HY1 HBX; have HBX := Aside0.mk hbx; clear hb hbx))
   go_upto_region 13 with fail
   replace HV8 := Aside0.mk (HV8.out.below HBX.out)
   replace HV11 := Aside0.mk (HV11.out.below HBX.out)
   replace K3 := Aside0.mk (blk_below K3.out HBX.out)
   replace B3 := Aside0.mk (B3.out.trans (HBX.out.mono B3.out.size))
   replace HX0 := Aside0.mk (HX0.out.below HBX.out)
   replace HX1 := Aside0.mk (HX1.out.below HBX.out)
   replace K10 := Aside0.mk (blk_below K10.out HBX.out)
   clear HBX HD HC21 h100 h101 h30 h31
   have h100 := blk_cell K10.out 0
   have h101 := blk_cell K10.out 1
   simp at h100 h101
   have hrv0 : ¬ rv < 0 := by omega
   clear hrv
   -- marks in the program's vessels
   go_upto_region 14 with (go_at_call 22; refine (laws_markVessels.calls k6 (fun k => some k = (Value.slice A4 l0.length c4).ownBlock) (.slice A4 l0.length c4) l0 (fun k => some k = (Value.slice A5 l1.length c5).ownBlock) (.slice A5 l1.length c5) l1 1 rv L0 L1 w _ B3.out HX0.out (fun k h1 h2 => (OXX.out k h1.symm).2 h2) HX1.out (fun k h1 h2 => (OXX.out k h2.symm).2 h1) HMV.out).mono ?_; rintro e w10 ⟨rfl, _, _, hB, hk⟩; have HBM := Aside0.mk hB; have HKM := Aside0.mk hk; clear hB hk)
   replace HV8 := Aside0.mk (HV8.out.kept HKM.out (fun k hk h => by have h8 := O8.out k hk; rcases h with h | h; (have := (OX0.out k h.symm).1; omega); (have := (OX1.out k h.symm).1; omega)))
   replace HV11 := Aside0.mk (HV11.out.kept HKM.out (fun k hk h => by have h8 := (O11.out k hk).1; rcases h with h | h; (have := (OX0.out k h.symm).2; omega); (have := (OX1.out k h.symm).2; omega)))
   replace K3 := Aside0.mk (blk_kept K3.out HKM.out (fun h => by have h8 := HW3.out; rcases h with h | h; (have := (OX0.out _ h.symm).1; omega); (have := (OX1.out _ h.symm).1; omega)))
   replace B3 := HBM
   clear HBM HKM HX0 HX1 K10 h100 h101 OXX HMV
   go_upto_region 16 with (go_at_call 78; refine (HC14.out _ _ _ _ _ HV11.out.reads.2 HV11.out.reads.1 HV8.out.reads.2 HV8.out.reads.1).mono ?_; rintro e w11 ⟨rfl, hb⟩; have HB7 := Aside0.mk hb; clear hb)
   replace HV8 := Aside0.mk (HV8.out.below HB7.out)
   replace HV11 := Aside0.mk (HV11.out.below HB7.out)
   replace K3 := Aside0.mk (blk_below K3.out HB7.out)
   replace B3 := Aside0.mk (B3.out.trans (HB7.out.mono B3.out.size))
   clear HB7
   -- marks in the program's plan
   go_upto_region 18 with (go_at_call 79; refine (laws_markIntS.calls k1 (fun k => some k = (Value.slice A11 pl.length c11).ownBlock) (.slice A11 pl.length c11) pl 1 _ mk w _ B3.out HV11.out HMK.out).mono ?_; rintro e w12 ⟨rfl, hR, hB, hk⟩; have HR := Aside0.mk hR; have HBM := Aside0.mk hB; have HKM := Aside0.mk hk; clear hR hB hk)
   replace HV8 := Aside0.mk (HV8.out.kept HKM.out (fun k hk h => by have h8 := O8.out k hk; have := (O11.out k h.symm).1; have := HN3.out; omega))
   replace K3 := Aside0.mk (blk_kept K3.out HKM.out (fun h => by have h8 := HW3.out; have := (O11.out _ h.symm).1; have := HN3.out; omega))
   replace HV11 : Aside0 (Tt (Kd.int .i64) 3 w w12 (.slice A11 pl.length c11) mk) := Aside0.mk (Tt.mk rfl HR.out (Nat.le_refl _))
   replace B3 := HBM
   clear HR HBM HKM HMK
   have HC16 : Hid (∀ (W : World), Tt (Kd.int .i64) 3 w W (.slice A11 pl.length c11) mk → Calls Try.prog 80 #[.slice A11 pl.length c11, .int .i64 1] W fun e w' => e = .returned (.int .i64 (1 + (pl.length : Int))) ∧ Below W.heap.size W w') := by
    intro W h
    have e := (Kd.R_reads' h).1
    have hc := laws_heldIntS.calls k2 A11 c11 mk 1 _ W h.reads.2 (e ▸ h.reads.1) HHK.out
    rw [← e] at hc
    exact hc.mono fun e w' ⟨h1, h2⟩ => ⟨h1, h2.below⟩
   have hpos : ¬ (1 + (pl.length : Int)) < 0 := by omega
   go_upto_region 24 with (go_at_call 80; refine (HC16.out _ HV11.out).mono ?_; rintro e w13 ⟨rfl, hb⟩; have HB7 := Aside0.mk hb; clear hb)
   replace HV8 := Aside0.mk (HV8.out.below HB7.out)
   replace HV11 := Aside0.mk (HV11.out.below HB7.out)
   replace K3 := Aside0.mk (blk_below K3.out HB7.out)
   replace B3 := Aside0.mk (B3.out.trans (HB7.out.mono B3.out.size))
   clear HB7
   have h30 := blk_cell K3.out 0
   have h31 := blk_cell K3.out 1
   simp at h30 h31
   go_upto_region 25 with (first
    | (go_at_call 19; refine (HC19.out _ B3.out).mono ?_; rintro e w14 ⟨B4, d4, B5, d5, rfl, g0, g1, hb⟩; have HX0 := Aside0.mk (Kd.R_reads' g0).2; have HX1 := Aside0.mk (Kd.R_reads' g1).2; have HB2 := Aside0.mk hb; clear g0 g1 hb)
    | (go_at_call 82; refine (HI.out _ _ _ _ _ HX0.out.2 HX0.out.1 HX1.out.2 HX1.out.1).mono ?_; rintro e w15 ⟨A16, c16, rfl, g0, hb⟩; have HV16 := Aside0.mk g0; have HB3 := Aside0.mk hb; clear g0 hb))
   have hb3 := HB2.out.trans (HB3.out.mono HB2.out.size)
   replace HV8 := Aside0.mk (HV8.out.below hb3)
   replace HV11 := Aside0.mk (HV11.out.below hb3)
   replace K3 := Aside0.mk (blk_below K3.out hb3)
   replace B3 := Aside0.mk (B3.out.trans (hb3.mono B3.out.size))
   clear HB2 HB3 hb3 h30 h31 HX0 HX1
   go_upto_region 27 with (go_at_call 78; refine (HC14.out _ _ _ _ _ (Kd.R_reads' HV16.out).2.2 (Kd.R_reads' HV16.out).2.1 HV8.out.reads.2 HV8.out.reads.1).mono ?_; rintro e w16 ⟨rfl, hb⟩; have HB7 := Aside0.mk hb; clear hb)
   replace HV8 := Aside0.mk (HV8.out.below HB7.out)
   replace HV11 := Aside0.mk (HV11.out.below HB7.out)
   replace K3 := Aside0.mk (blk_below K3.out HB7.out)
   replace B3 := Aside0.mk (B3.out.trans (HB7.out.mono B3.out.size))
   clear HB7 HV16
   go_wp2_with (go_at_call 80; refine (HC16.out _ HV11.out).mono ?_; rintro e w17 ⟨rfl, hb⟩; have HB7 := Aside0.mk (B3.out.trans (hb.mono B3.out.size)); clear hb)
   go_ret
   exact ⟨rfl, HB7.out⟩
end Go.Proofs.Ytjllbahhkeglfaa.P
