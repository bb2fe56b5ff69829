/- The program's AmountsOf and SumsOf return what the reference's return, for all arguments (part 3 of its texts). No conditions. -/
import Derived.Test.YtjllbahhkeglfaaProg
import Derived.Lib.Hide
import Derived.Shelf.Sort.Plain
import Derived.Shelf.Slices.CompactI
import Derived.Ground.NamesProg
import Derived.Ground.Names2Prog
import Derived.Sort.OwnSortedInts
import Derived.Sort.Grow
import Derived.Lib.OwnBridge
import Derived.Deep.RegionLaw
import Derived.Lib.LazyBuf
import Derived.Shelf.Abstract
import Derived.Laws.CopyOwn
import Derived.WideKeyPair
import Derived.Maps.OwnSet
import Derived.Maps.Views
import Derived.Below
import Derived.Deep.Draws
import Derived.Deep.AppendLies
import Derived.Maps.AppendAt
import Derived.OwnWalk
import Derived.Laws.BytesArg
import Derived.Laws.MakeOwn
import Derived.Laws.OwnMore
import Derived.Deep.OwnRows
import Derived.Tactics
import Derived.Lib.ConvBytes
import Derived.Laws.Slices
import Derived.WalkKit
import Derived.KernelRfl
import Derived.RowKit3
import Derived.Deep.LoopGhost
import Derived.Deep.QuietTactic
import Derived.BigQuiet
import Derived.WideLaws
import Derived.Deep.DeepCutAuto
import Derived.Deep.CutBlock
import Derived.Deep.RegionHeld3
import Derived.Laws.Rows
import Derived.Lib.AppendStr
import Derived.ArgAppend
import Derived.Laws.IdiomCopy
import Derived.OrdersHeld
import Derived.Laws.BitsLemmas
import Derived.RowKit
import Derived.OpenShut
import Derived.ShutString
import Derived.ChangeOld
import Derived.SizedLaws
import Derived.Lib.SmallJoins
import Derived.Test.YtjllbahhkeglfaaWWords
import Derived.Test.YtjllbahhkeglfaaWLast
import Derived.Test.YtjllbahhkeglfaaWTab
import Derived.Test.YtjllbahhkeglfaaWQPut
import Derived.Test.YtjllbahhkeglfaaWApart
import Derived.Test.YtjllbahhkeglfaaWArr
import Derived.Test.YtjllbahhkeglfaaWZeros
import Derived.Test.YtjllbahhkeglfaaWFoot
import Derived.Test.YtjllbahhkeglfaaWKept
import Derived.Test.YtjllbahhkeglfaaWShare
import Derived.Test.YtjllbahhkeglfaaWN
import Derived.Test.YtjllbahhkeglfaaWFootNe
import Derived.Test.YtjllbahhkeglfaaWRepsOne
import Derived.Test.YtjllbahhkeglfaaWInv
import Derived.Test.YtjllbahhkeglfaaWInvWords
import Derived.Test.YtjllbahhkeglfaaWGuard
import Derived.Test.YtjllbahhkeglfaaWNEv
import Derived.Test.YtjllbahhkeglfaaWMore
import Derived.Test.YtjllbahhkeglfaaAs2
import Derived.Test.YtjllbahhkeglfaaAs1
namespace Go.Proofs.Ytjllbahhkeglfaa.P
open Go.RowKit Go.Proofs.YtjllbahhkeglfaaW.PrintWords Go.Proofs.YtjllbahhkeglfaaW.PrintLast Go.Proofs.YtjllbahhkeglfaaW.PrintMore
set_option linter.unusedVariables false
set_option linter.unusedSimpArgs false
/-- What plAll leaves: the search, or nothing that is told. -/
def AllEnd (w : World) (RES : Option Srch) (e : Ending) (w' : World) : Prop :=
 ∃ g : Nat, Below w.heap.size w w' ∧ match RES with
  | some r => e = .returned (.tuple #[.pointer (some ⟨g, 0, none⟩), .bool true]) ∧ ∃ c va vf vm vd vo vl ls, Mem w w' g c va vf vm vd vo vl r.all r.fr r.ms r.far r.ord ls
  | none => e = .returned (.tuple #[.pointer (some ⟨g, 0, none⟩), .bool false])
/-- The search's memory at a round. -/
def Held (w wr : World) (g : Nat) (r : Srch) : Prop := ∃ c va vf vm vd vo vl ls, Mem w wr g c va vf vm vd vo vl r.all r.fr r.ms r.far r.ord ls
theorem mem_rdM {l : List S56} {i : Int} (h0 : 0 ≤ i) (h1 : i < l.length) : rd_T56 l i ∈ l := by
 unfold rd_T56
 rw [List.getD_eq_getElem?_getD, List.getElem?_eq_getElem (by omega : i.toNat < l.length)]
 exact List.getElem_mem _
def HeldL (w wr : World) (g : Nat) (r : Srch) (vl : Value) (ls : List S56) : Prop := ∃ c va vf vm vd vo, Mem w wr g c va vf vm vd vo vl r.all r.fr r.ms r.far r.ord ls
set_option maxHeartbeats 4000000 in
set_option maxRecDepth 100000 in
theorem spec_plAll.calls (cl : Bool) (A0 A1 : Option Addr) (c0 c1 : Nat) (l0 l1 : List Int) (w : World) (hr0 : Kd.C (Kd.int .i64) w A0 l0.length l0) (hc0 : l0.length ≤ c0) (hr1 : Kd.C (Kd.int .i64) w A1 l1.length l1) (hc1 : l1.length ≤ c1) (G : Good l0 l1) :
 Calls Try.prog 134 #[.agg #[.slice A0 l0.length c0, .slice A1 l1.length c1], .bool cl] w (AllEnd w (sBfs l0 cl 3001 0 (sStart l0 l1))) := by
 have HS := Aside0.mk (start_mem w A0 A1 c0 c1 l0 l1 hr0 hc0 hr1 hc1)
 have HI := Aside0.mk (SInv.start G)
 generalize hR : sBfs l0 cl 3001 0 (sStart l0 l1) = RES
 have HR := Aside0.mk hR
 clear hR hr0 hc0 hr1 hc1
 have hu92 := Try.underlying92
 have hu33 := Try.underlying33
 have hu56 := Try.underlying56
 unfold startW at HS
 obtain ⟨g, hg⟩ : ∃ g, w.heap.size + 1 + 1 + 1 + 1 + 1 + 1 = g := ⟨_, rfl⟩
 rw [show w.heap.size + 6 = g from hg] at HS
 go_enter Try.func134, Try.ntmps134
 go_wp2
 go_loopg [7] 3001 (fun gg s7 wr => ∃ (i : Nat) (r : Srch), s7 = .int .i64 i ∧ i ≤ 3000 ∧ 3001 - i ≤ gg ∧ Aside0 (sBfs l0 cl gg i r = RES) ∧ Aside0 (SInv l0 r) ∧ Aside0 (Held w wr g r))
 case atStart => exact ⟨0, sStart l0 l1, rfl, by omega, by omega, HR, HI, Aside0.mk ⟨col0 w.heap.size, _, _, _, _, _, _, _, HS.out⟩⟩
 case round =>
  clear HS HR HI hg
  obtain ⟨i, r, rfl, hi, hgg, HQ, HI, HH⟩ := hrel
  obtain ⟨c, va, vf, vm, vd, vo, vl, ls, M⟩ := HH.out
  clear HH
  have hb0 := blk_cell M.blk 0
  simp at hb0
  obtain ⟨Aa, ca, rfl⟩ := Kd.N_slice M.na
  have n2 := HI.out.n2
  by_cases hlt : i < r.all.length
  · have hltz : (i : Int) < (r.all.length : Int) := by omega
    obtain ⟨aa, B0, d0, B1, d1, ea, hy0, hy1, hd0, hz0, hd1, hz1⟩ := at_T33 (Kd.N_reads' M.na).2.2 (i : Int) (by omega) (by omega)
    subst ea
    rw [Int.toNat_natCast] at hy0 hy1
    obtain ⟨ef0, Gi⟩ := HI.out.at_ (i := (i : Int)) (by omega) (by omega)
    have HGi := Aside0.mk Gi
    obtain ⟨k, hk⟩ := (spec_on_ev Gi cl).rounds
    obtain ⟨n1, rfl⟩ : ∃ n1, gk = n1 + 1 := ⟨gk - 1, by omega⟩
    have hq := HQ.out
    rw [sBfs, if_pos hlt] at hq
    have HQ1 := Aside0.mk hq
    have HC99 : Hid (∀ W, Below wr.heap.size wr W → Calls Try.prog 99 #[.agg #[.slice B0 (rd_T33 r.all i).f0.length d0, .slice B1 (rd_T33 r.all i).f1.length d1], .bool cl] W fun e w' => ∃ v0_ : Value, e = .returned v0_ ∧ Kd.R k56 56 w' W.heap.size (fun _ => True) v0_ (movesP l0 (rd_T33 r.all i).f1 cl) ∧ Below W.heap.size W w') := by
     intro W hW
     exact spec_veOn.calls k B0 d0 _ B1 d1 _ cl _ W (Kd.C_below hz0 hW) hd0 (Kd.C_below hz1 hW) hd1 (by rw [ef0]; exact hk)
    have HM := Aside0.mk (M.upd 7)
    clear hq HQ hk hd0 hz0 hd1 hz1 M
    generalize hL : movesP l0 (rd_T33 r.all i).f1 cl = L at HQ1 HC99
    have HL := Aside0.mk hL
    have hLb : L.length ≤ 60 := by
     have h := movesP_length HGi.out cl


     rw [hL] at h
     omega
    clear hL
    generalize (rd_T33 r.all i).f0.length = q0 at hy0 HC99
    generalize (rd_T33 r.all i).f1.length = q1 at hy1 HC99
    go_wp2_with (go_at_call 99; refine (HC99.out _ (Below.refl _ _)).mono ?_; rintro e w1 ⟨vL, rfl, hRL, hb1⟩; obtain ⟨AL, cL, rfl⟩ := Kd.R_slice hRL)
    have HRL := Aside0.mk hRL
    have HB1 := Aside0.mk hb1
    clear hb0 hy0 hy1 hRL hb1
    go_loopg [41] L.length (fun gg s41 wi => ∃ (j : Nat) (r2 : Srch), s41 = .int .i64 j ∧ j ≤ L.length ∧ L.length - j ≤ gg ∧ i < r2.all.length ∧ Aside0 (rd_T33 r2.all i = rd_T33 r.all i) ∧ Aside0 ((sVis l0 i (L.drop j) r2).bind (sBfs l0 cl n1 (i + 1)) = RES) ∧ Aside0 (SInv l0 r2) ∧ Aside0 (HeldL w wi g r2 (.slice AL L.length cL) L))
    case atStart =>
     have HH := (HM.out.below HB1.out).list (Kd.R_mono (Kd.R_lower (Kd.R_bound HRL.out) HM.out.bel.size) (fun k hk => upd_ge hk.2.1))
     exact ⟨0, r, rfl, by omega, by omega, hlt, ⟨rfl⟩, HQ1, HI, ⟨_, _, _, _, _, _, HH⟩⟩
    case round =>
     clear HM HB1 HRL HQ1 HI HC99
     obtain ⟨j, r2, rfl, hj, hgg2, hir, HX, HQ2, HI2, HH2⟩ := hrel
     obtain ⟨c, va, vf, vm, vd, vo, M⟩ := HH2.out
     clear HH2
     by_cases hjl : j < L.length
     · have hjz : (j : Int) < (L.length : Int) := by omega
       obtain ⟨am, em, hm0, hm1⟩ := at_T56 (Kd.R_reads' M.nl).2.2 (j : Int) (by omega) (by omega)
       subst em
       rw [Int.toNat_natCast] at hm0 hm1
       generalize hmm : rd_T56 L (j : Int) = m at hm0 hm1
       have HMV := Aside0.mk hmm
       clear hmm
       have hb0 := blk_cell M.blk 0
       simp at hb0
       obtain ⟨Ab, cb, rfl⟩ := Kd.N_slice M.na
       obtain ⟨ab, B2, d2, B3, d3, eb, hz0, hz1, he0, hf0, he1, hf1⟩ := at_T33 (Kd.N_reads' M.na).2.2 (i : Int) (by omega) (by omega)
       subst eb
       rw [Int.toNat_natCast] at hz0 hz1
       rw [HX.out] at hz0 hz1 hf0 hf1 he0 he1
       have c9 : upd c wr.heap.size 8 wr.heap.size = 8 := upd_ge (Nat.le_refl _)
       have HM := Aside0.mk ((M.upd 8).below (below_alloc (Below.refl _ _) (.cells #[.int .i64 m.f0, .int .i64 m.f1] 56)))
       have C9 := Aside0.mk c9
       clear c9
       have hmem : m ∈ L := by
        have h := mem_rdM (l := L) (i := (j : Int)) (by omega) (by omega)
        rwa [HMV.out] at h
       have hmv := (movesP_mem (HL.out ▸ hmem)).1
       have HMVV := Aside0.mk hmv
       have hi0 : (0 : Int) ≤ (i : Int) := by omega
       have hi1 : (i : Int) < (r2.all.length : Int) := by omega
       go_upto_region 8 with fail
       have b9 : Below wr.heap.size wr (wr.alloc (.cells #[.int .i64 m.f0, .int .i64 m.f1] 56)) := below_alloc (Below.refl _ _) _
       have k9 := blk_new wr (.cells #[.int .i64 m.f0, .int .i64 m.f1] 56)
       generalize wr.alloc (.cells #[.int .i64 m.f0, .int .i64 m.f1] 56) = W9 at HM b9 k9 ⊢
       replace hb0 := pw_cell_below b9 hb0
       replace hz0 := pw_cell_below b9 hz0
       replace hz1 := pw_cell_below b9 hz1
       replace hf0 := Kd.C_below hf0 b9
       replace hf1 := Kd.C_below hf1 b9
       clear b9
       generalize wr.heap.size = n9 at HM k9 C9 ⊢
       have hn0 := blk_cell k9 0
       have hn1 := blk_cell k9 1
       simp at hn0 hn1
       have K9 := Aside0.mk k9
       have HC101 : Hid (∀ W, Below W9.heap.size W9 W → Calls Try.prog 101 #[.agg #[.slice B2 (rd_T33 r.all i).f0.length d2, .slice B3 (rd_T33 r.all i).f1.length d3], .agg #[.int .i64 m.f0, .int .i64 m.f1]] W fun e w' => ∃ v0_ v1_ : Value, e = .returned (.agg #[v0_, v1_]) ∧ Kd.R (Kd.int .i64) 3 w' W9.heap.size (fun k_ => some k_ ≠ (v1_ : Value).ownBlock) v0_ l0 ∧ Kd.R (Kd.int .i64) 3 w' W9.heap.size (fun k_ => some k_ ≠ (v0_ : Value).ownBlock) v1_ (nxt l0 (rd_T33 r.all i) m) ∧ Below W.heap.size W w' ∧ Below W9.heap.size W9 w') := by
        intro W hW
        refine (spec_veMake.calls B2 d2 _ B3 d3 _ _ _ l0 _ W (Kd.C_below hf0 hW) he0 (Kd.C_below hf1 hW) he1 (by rw [ef0]; exact spec_make_eq HGi.out hmv)).mono ?_
        rintro e w' ⟨v0, v1, rfl, h0, h1, h2⟩
        exact ⟨v0, v1, rfl, Kd.R_lower h0 hW.size, Kd.R_lower h1 hW.size, h2, below_step hW h2⟩
       clear M he0 he1
       generalize hnx : nxt l0 (rd_T33 r.all i) m = nx at HC101
       have HNX := Aside0.mk hnx
       clear hnx
       generalize (rd_T33 r.all i).f0.length = q2 at hz0 HC101
       generalize (rd_T33 r.all i).f1.length = q3 at hz1 HC101
       have ng : g ≠ W9.heap.size := Nat.ne_of_lt (World.block_lt_of_cell? W9 _ hb0)
       have na : (ab.add (i * 2)).block ≠ W9.heap.size := Nat.ne_of_lt (World.block_lt_of_cell? W9 _ hz0)
       have nn9 : n9 ≠ W9.heap.size := Nat.ne_of_lt (World.block_lt_of_cell? W9 _ hn0)
       clear k9 hmv hmem hf0 hf1
       go_cut [10] (fun s10 wx => ∃ (b10 : Nat) (A4 : Option Addr) (c4 : Nat) (A5 : Option Addr) (c5 : Nat), s10 = .pointer (some ⟨b10, 0, none⟩) ∧ Aside0 (Mid w wx g n9 b10 r2.all r2.fr r2.ms r2.far r2.ord (.slice (some am) L.length cL) L m l0 nx A4 c4 A5 c5))
       case first =>
        go_region_held3 (fun w' => w'.cell? ⟨g, 0, none⟩ = some (.slice (some ab) r2.all.length cb) ∧ w'.cell? (ab.add (i * 2)) = some (.slice B2 q2 d2) ∧ w'.cell? ⟨(ab.add (i * 2)).block, (ab.add (i * 2)).off + 1, none⟩ = some (.slice B3 q3 d3) ∧ w'.cell? ⟨n9, 0, none⟩ = some (.int .i64 m.f0) ∧ w'.cell? ⟨n9, 1, none⟩ = some (.int .i64 m.f1))
         (first | exact ⟨hb0, hz0, hz1, hn0, hn1⟩ | exact ⟨pw_cell_below HB9.out hb0, pw_cell_below HB9.out hz0, pw_cell_below HB9.out hz1, pw_cell_below HB9.out hn0, pw_cell_below HB9.out hn1⟩ | exact ⟨cell_far (cell_far hm0_ ng) ng, cell_far (cell_far hm1_ na) na, cell_far (cell_far hm2_ na) na, cell_far (cell_far hm3_ nn9) nn9, cell_far (cell_far hm4_ nn9) nn9⟩ | go_keep)
         (first | (go_at_call 101; refine (HC101.out _ ?hbb).mono ?_; (case hbb => repeat (first | exact Below.refl _ _ | apply below_drew | apply below_alloc)); rintro e w2 ⟨v0, v1, rfl, hv0, hv1, hb2, hb3⟩; obtain ⟨A4, c4, rfl⟩ := Kd.R_slice hv0; obtain ⟨A5, c5, rfl⟩ := Kd.R_slice hv1; have hq0 := pw_cell_below (a := ⟨W9.heap.size, 0, none⟩) (v := .slice none 0 0) hb2; have hq1 := pw_cell_below (a := ⟨W9.heap.size, 1, none⟩) (v := .slice none 0 0) hb2; have hq2 := hb2.frozen (p := ⟨W9.heap.size, 0, none⟩); have hq3 := hb2.frozen (p := ⟨W9.heap.size, 1, none⟩); have HQB := fun h => blk_below (g := W9.heap.size) (o := .cells #[.slice none 0 0, .slice none 0 0] 33 (0, 0)) h hb2; have HV0 := Aside0.mk hv0; have HV1 := Aside0.mk hv1; have HB2 := Aside0.mk hb2; have HB9 := Aside0.mk hb3; have hm0_ := pw_cell_below hb3 hb0; have hm1_ := pw_cell_below hb3 hz0; have hm2_ := pw_cell_below hb3 hz1; have hm3_ := pw_cell_below hb3 hn0; have hm4_ := pw_cell_below hb3 hn1; clear hv0 hv1 hb2 hb3))
        all_goals (go_wp2_with fail; go_meet)
        all_goals first
         | (have hbw := below_step HM.out.bel HB9.out
            exact ⟨w2.heap.size, A4, c4, A5, c5, rfl, ⟨mid_of HM.out C9.out K9.out HB9.out HV0.out HV1.out HB9.out.size (fun k hlt _ => Below.heap_alloc w2 _ k hlt) (blk_new w2 _) (fun k hk => Nat.ne_of_lt (Kd.R_lt HV0.out k hk)) (fun k hk => Nat.ne_of_lt (Kd.R_lt HV1.out k hk)) (hbw.alloc hbw.size _)⟩⟩)
         | (have hz := HQB (blk_drew (blk_new W9 _))
            have hbw := below_step HM.out.bel HB9.out
            exact ⟨W9.heap.size, A4, c4, A5, c5, rfl, ⟨mid_of HM.out C9.out K9.out HB9.out HV0.out HV1.out (Nat.le_refl _) (fun k _ hne => (Below.heap_setCell _ _ _ k hne).trans (Below.heap_setCell _ _ _ k hne)) (by simpa using blk_set (blk_set hz 0 (.slice A4 l0.length c4)) 1 (.slice A5 nx.length c5)) (own_ne_of HV0.out hz (by decide)) (own_ne_of HV1.out hz (by decide)) ((hbw.setCell HM.out.bel.size _).setCell HM.out.bel.size _)⟩⟩)
       case rest =>
        obtain ⟨b10, A4, c4, A5, c5, rfl, HMID⟩ := hcut
        clear hb0 hz0 hz1 hn0 hn1 ng na nn9 HM K9 C9 HC101
        obtain ⟨k9, k10, hs4, hC4, hs5, hC5⟩ := HMID.out.vars
        obtain ⟨Aa, Ao, ca, co, vf, vm, vd, SS⟩ := HMID.out.seen
        have hG2 : Good l0 nx := by rw [← HNX.out]; exact beh_good HGi.out HMVV.out
        have HG2 := Aside0.mk hG2
        have hp0 := blk_cell k10 0
        have hp1 := blk_cell k10 1
        simp at hp0 hp1
        have HC102 : Hid (Calls Try.prog 102 #[.pointer (some ⟨g, 0, none⟩), .agg #[.slice A4 l0.length c4, .slice A5 nx.length c5]] wc fun e w' => e = .returned (.tuple #[.int .i64 (plLow r2.all r2.ord nx), .bool (plFound r2.all r2.ord nx)]) ∧ Below wc.heap.size wc w') :=
         spec_plPlace.calls g vf vm vd Aa Ao ca co r2.all r2.ord A4 A5 c4 c5 l0 nx wc SS hC4 hs4 hC5 hs5 (by have := hG2.len; have := hG2.n5; omega) (by have := HI2.out.l4; have := HI2.out.n2; omega) (fun j j0 j1 => HI2.out.ord_ j0 j1) (fun j j0 j1 => by rw [(HI2.out.at_ j0 j1).2.len, hG2.len])
        clear k9 k10 hs4 hC4 hs5 hC5 SS hG2
        have HDROP : Aside0 (L.drop j = m :: L.drop (j + 1)) := ⟨by
         rw [List.drop_eq_getElem_cons hjl]
         congr 1
         rw [← HMV.out]
         unfold rd_T56
         simp [List.getD_eq_getElem?_getD, List.getElem?_eq_getElem hjl]⟩
        cases hfound : plFound r2.all r2.ord nx with
        | true =>
          rw [hfound] at HC102
          go_wp2_with (go_at_call 102; refine HC102.out.mono ?_; rintro e w4 ⟨rfl, hb4⟩)
          have HQ3 : Aside0 ((sVis l0 i (L.drop (j + 1)) r2).bind (sBfs l0 cl n1 (i + 1)) = RES) := ⟨by
           have h := HQ2.out
           rw [HDROP.out, sVis] at h
           simp only [HX.out, HNX.out, hfound, if_true] at h
           exact h⟩
          have HH3 : Aside0 (HeldL w w4 g r2 (.slice (some am) L.length cL) L) := ⟨(HMID.out.below hb4).memL⟩
          clear hb4 HC102 HMID hp0 hp1 hfound
          have hm1 : j + 1 ≤ L.length := by omega
          have hm2 : L.length - (j + 1) ≤ L.length - (j + 1) := Nat.le_refl _
          go_roundg (L.length - (j + 1))
          case measure => omega
          case rel => exact ⟨j + 1, r2, by go_num, hm1, hm2, hir, HX, HQ3, HI2, HH3⟩
        | false =>
          rw [hfound] at HC102
          have HFD := Aside0.mk hfound
          clear hfound
          go_upto_region 11 with (go_at_call 102; refine HC102.out.mono ?_; rintro e w4 ⟨rfl, hb4⟩)
          have M4 := HMID.out.below hb4
          clear HMID HC102 hp0 hp1 hb4
          obtain ⟨v0, ok, x0, x1, x2, x3, x4, hcell, ⟨A6, c6, rfl⟩, hN, hfr, hblk, hne, hFK, hnext⟩ := M4.row0
          obtain ⟨k9, k10, hs4, hC4, hs5, hC5⟩ := M4.vars
          have HM4 := Aside0.mk M4
          clear M4 hs4 hC4 hs5 hC5
          have hp0 := blk_cell k10 0
          have hp1 := blk_cell k10 1
          simp at hp0 hp1
          have hcell2 := pw_cell_below (below_alloc (Below.refl _ _) (.cells #[.slice A4 l0.length c4, .slice A5 nx.length c5] 33)) hcell
          have HN := Aside0.mk hN
          have HFR := Lib.hid hfr
          have HBK := Lib.hid hblk
          have HNE := Lib.hid hne
          have HFK := Lib.hid hFK
          have HNXT := Lib.hid hnext
          have HLM := Aside0.mk (show (r2.all.length + 1) * 48 ≤ 140737488355328 by have := HI2.out.n2; omega)
          have HBW := Aside0.mk HM4.out.bel
          clear hN hfr hblk hne hFK hnext k9 k10
          go_cut [] (fun wx => Aside0 (Mid w wx g n9 b10 (r2.all ++ [⟨l0, nx⟩]) r2.fr r2.ms r2.far r2.ord (.slice (some am) L.length cL) L m l0 nx A4 c4 A5 c5))
          case first =>
           go_region_law (first | (refine N_app_step k33 (w0 := w) (w4 := w4) w.heap.size (by rfl) (.tmp 65) (.tmp 67) 46 33 (.agg #[.slice none 0 0, .slice none 0 0]) 48 (by rfl) Try.underlying46 info33 rfl (by decide) (by omega) (.slice A6 r2.all.length c6) r2.all ⟨l0, nx⟩ [.slice A4 l0.length c4, .slice A5 nx.length c5] ok w4.heap.size (by rfl) (by rfl) HN.out HFR HFK HBW.out HBW.out.size HLM.out ?g3 (Nat.le_refl _) ?g4 ?_; (case g3 => repeat (first | exact Below.refl _ _ | apply below_drew | apply below_alloc)); (case g4 => exact blk_new _ _); intro v1 w5 ho hb hg hat; obtain ⟨A7, c7, rfl⟩ := Kd.N_slice ho; rw [List.length_append, List.length_singleton] at ho hat; have hbl := HBK w5 hg; have hq0 := blk_cell hbl 0; have hq1 := blk_frozen hbl 0; simp at hq0; have HO := Aside0.mk ho; have HB5 := Aside0.mk hb; have HG5 := Aside0.mk hg; have HAT := Aside0.mk hat; clear ho hb hg hat hbl))
           all_goals (go_wp2_with fail; go_meet)
           all_goals first | exact ⟨HNXT _ _ HO.out HB5.out HG5.out HAT.out⟩ | exact ⟨(HNXT _ _ HO.out HB5.out HG5.out HAT.out).drew⟩
          case rest =>
           clear HN HFR HBK HNE HFK HNXT HLM HBW HM4 hcell hp0 hp1 hcell2
           go_upto_region 12 with fail
           have M4 := hcut.out
           clear hcut
           obtain ⟨v0, ok, x0, x1, x2, x3, x4, hcell, ⟨A6, c6, rfl⟩, hN, hfr, hblk, hne, hnext⟩ := M4.row1
           obtain ⟨k9, k10, hs4, hC4, hs5, hC5⟩ := M4.vars
           have HM4 := Aside0.mk M4
           clear M4 hs4 hC4 hs5 hC5
           have HN := Aside0.mk hN
           have HFR := Lib.hid hfr
           have HBK := Lib.hid hblk
           have HNE := Lib.hid hne
           have HNXT := Lib.hid hnext
           have HLM := Aside0.mk (show (r2.fr.length + 1) * 8 ≤ 140737488355328 by have := HI2.out.n2; have := HI2.out.l1; omega)
           have HBW := Aside0.mk HM4.out.bel
           clear hN hfr hblk hne hnext k9 k10
           go_cut [] (fun wx => Aside0 (Mid w wx g n9 b10 (r2.all ++ [⟨l0, nx⟩]) (r2.fr ++ [(i : Int)]) r2.ms r2.far r2.ord (.slice (some am) L.length cL) L m l0 nx A4 c4 A5 c5))
           case first =>
            go_wp2_with (first | ((with_reducible refine gate_builtin (b := .append) (xs := #[.tmp 75, .tmp 77]) rfl ?_); at_builtin; refine R_app (Kd.int .i64) (w0 := w) (w4 := wc) w.heap.size (by rfl) (.tmp 75) (.tmp 77) 28 3 (.int .i64 0) 8 (by rfl) Try.underlying28 info3 rfl (by decide) (by omega) (.slice A6 r2.fr.length c6) r2.fr (i : Int) [.int .i64 (i : Int)] ok wc.heap.size (by rfl) (by rfl) HN.out HFR (fun _ _ => rfl) HBW.out HBW.out.size HLM.out ?g3 ?g4 ?_; (case g3 => repeat (first | exact Below.refl _ _ | apply below_drew | apply below_alloc)); (case g4 => exact blk_new _ _); intro v1 w5 ho hb hg; obtain ⟨A7, c7, rfl⟩ := Kd.R_slice ho; rw [List.length_append, List.length_singleton] at ho; have hbl := HBK w5 hg; have hq0 := blk_cell hbl 1; have hq1 := blk_frozen hbl 1; simp at hq0; have HO := Aside0.mk ho; have HB5 := Aside0.mk hb; have HG5 := Aside0.mk hg; clear ho hb hg hbl))
            all_goals (try go_meet)
            all_goals first | exact ⟨HNXT _ _ _ HO.out HB5.out HG5.out⟩ | exact ⟨(HNXT _ _ _ HO.out HB5.out HG5.out).drew⟩
           case rest =>
            clear HN HFR HBK HNE HNXT HLM HBW HM4 hcell  
            go_upto_region 13 with fail
            have M4 := hcut.out
            clear hcut
            obtain ⟨v0, ok, x0, x1, x2, x3, x4, hcell, ⟨A6, c6, rfl⟩, hN, hfr, hblk, hne, hnext⟩ := M4.row2
            obtain ⟨k9, k10, hs4, hC4, hs5, hC5⟩ := M4.vars
            have HM4 := Aside0.mk M4
            clear M4 hs4 hC4 hs5 hC5
            have hp0 := blk_cell k9 0
            have hp1 := blk_cell k9 1
            simp at hp0 hp1
            have hcell2 := pw_cell_below (below_alloc (Below.refl _ _) (.cells #[.int .i64 m.f0, .int .i64 m.f1] 56)) hcell
            have HN := Aside0.mk hN
            have HFR := Lib.hid hfr
            have HBK := Lib.hid hblk
            have HNE := Lib.hid hne
            have HNXT := Lib.hid hnext
            have HLM := Aside0.mk (show (r2.ms.length + 1) * 16 ≤ 140737488355328 by have := HI2.out.n2; have := HI2.out.l2; omega)
            have HBW := Aside0.mk HM4.out.bel
            clear hN hfr hblk hne hnext k9 k10
            go_cut [] (fun wx => Aside0 (Mid w wx g n9 b10 (r2.all ++ [⟨l0, nx⟩]) (r2.fr ++ [(i : Int)]) (r2.ms ++ [m]) r2.far r2.ord (.slice (some am) L.length cL) L m l0 nx A4 c4 A5 c5))
            case first =>
             go_region_law (first | (refine R_app_step k56 (w0 := w) (w4 := wc) w.heap.size (by rfl) (.tmp 85) (.tmp 87) 22 56 (.agg #[.int .i64 0, .int .i64 0]) 16 (by rfl) Try.underlying22 info56 rfl (by decide) (by omega) (.slice A6 r2.ms.length c6) r2.ms m [.int .i64 m.f0, .int .i64 m.f1] ok wc.heap.size (by rfl) (by rfl) HN.out HFR (fun _ _ => k56_mkM _ _ _ m) HBW.out HBW.out.size HLM.out ?g3 ?g4 ?_; (case g3 => repeat (first | exact Below.refl _ _ | apply below_drew | apply below_alloc)); (case g4 => exact blk_new _ _); intro v1 w5 ho hb hg; obtain ⟨A7, c7, rfl⟩ := Kd.R_slice ho; rw [List.length_append, List.length_singleton] at ho; have hbl := HBK w5 hg; have hq0 := blk_cell hbl 2; have hq1 := blk_frozen hbl 2; simp at hq0; have HO := Aside0.mk ho; have HB5 := Aside0.mk hb; have HG5 := Aside0.mk hg; clear ho hb hg hbl))
             all_goals (go_wp2_with fail; go_meet)
             all_goals first | exact ⟨HNXT _ _ _ HO.out HB5.out HG5.out⟩ | exact ⟨(HNXT _ _ _ HO.out HB5.out HG5.out).drew⟩
            case rest =>
             clear HN HFR HBK HNE HNXT HLM HBW HM4 hcell hp0 hp1 hcell2
             go_upto_region 14 with fail
             have M4 := hcut.out
             clear hcut
             obtain ⟨v0, ok, x0, x1, x2, x3, x4, hcell, ⟨A6, c6, rfl⟩, hN, hfr, hblk, hne, hnext⟩ := M4.row3
             obtain ⟨k9, k10, hs4, hC4, hs5, hC5⟩ := M4.vars
             have HM4 := Aside0.mk M4
             clear M4 hs4 hC4 hs5 hC5
             obtain ⟨aF, eF, hF0⟩ := Kd.at_int (Kd.R_reads' hN).2.2 (i : Int) (by omega) (by have := HI2.out.l3; omega)
             subst eF
             rw [Int.toNat_natCast] at hF0
             have hf0 := (HI2.out.farr i (by omega) (by omega)).1
             have hf1 := (HI2.out.farr i (by omega) (by omega)).2
             have hf2 : (i : Int) < (r2.far.length : Int) := by have := HI2.out.l3; omega
             have hwf : IntKind.i64.wrap (rd r2.far (i : Int) + 1) = rd r2.far (i : Int) + 1 := by have := HI2.out.n2; rw [IntKind.wrap_i64]; omega
             have HWF := Aside0.mk hwf
             clear hwf
             generalize hfe : rd r2.far (i : Int) = f at hF0 hf0 hf1 hnext HWF
             have HFE := Aside0.mk hfe
             clear hfe
             have hcell2 := pw_cell_below (below_alloc (Below.refl _ _) (.cells #[.int .i64 (IntKind.i64.wrap (f + 1))] 3)) hcell
             have HN := Aside0.mk hN
             have HFR := Lib.hid hfr
             have HBK := Lib.hid hblk
             have HNE := Lib.hid hne
             have HNXT := Lib.hid hnext
             have HLM := Aside0.mk (show (r2.far.length + 1) * 8 ≤ 140737488355328 by have := HI2.out.n2; have := HI2.out.l3; omega)
             have HBW := Aside0.mk HM4.out.bel
             clear hN hfr hblk hne hnext k9 k10
             go_cut [] (fun wx => Aside0 (Mid w wx g n9 b10 (r2.all ++ [⟨l0, nx⟩]) (r2.fr ++ [(i : Int)]) (r2.ms ++ [m]) (r2.far ++ [f + 1]) r2.ord (.slice (some am) L.length cL) L m l0 nx A4 c4 A5 c5))
             case first =>
              go_region_law (first | (refine R_app_step (Kd.int .i64) (w0 := w) (w4 := wc) w.heap.size (by rfl) (.tmp 95) (.tmp 104) 28 3 (.int .i64 0) 8 (by rfl) Try.underlying28 info3 rfl (by decide) (by omega) (.slice (some aF) r2.far.length c6) r2.far (IntKind.i64.wrap (f + 1)) [.int .i64 (IntKind.i64.wrap (f + 1))] ok wc.heap.size (by rfl) (by rfl) HN.out HFR (fun _ _ => rfl) HBW.out HBW.out.size HLM.out ?g3 ?g4 ?_; (case g3 => repeat (first | exact Below.refl _ _ | apply below_drew | apply below_alloc)); (case g4 => exact blk_new _ _); intro v1 w5 ho hb hg; obtain ⟨A7, c7, rfl⟩ := Kd.R_slice ho; rw [List.length_append, List.length_singleton] at ho; have hbl := HBK w5 hg; have hq0 := blk_cell hbl 3; have hq1 := blk_frozen hbl 3; simp at hq0; have HO := Aside0.mk ho; have HB5 := Aside0.mk hb; have HG5 := Aside0.mk hg; clear ho hb hg hbl))
              all_goals (go_wp2_with fail; go_meet)
              all_goals first | exact ⟨HNXT (f + 1) _ _ (HWF.out ▸ HO.out) HB5.out HG5.out⟩ | exact ⟨(HNXT (f + 1) _ _ (HWF.out ▸ HO.out) HB5.out HG5.out).drew⟩
             case rest =>
              clear HN HFR HBK HNE HNXT HLM HBW HM4 hcell hF0 hcell2
              go_upto_region 15 with fail
              have M4 := hcut.out
              clear hcut
              obtain ⟨v0, ok, x0, x1, x2, x3, x4, hcell, ⟨A6, c6, rfl⟩, hN, hfr, hblk, hne, hnext⟩ := M4.row4
              obtain ⟨k9, k10, hs4, hC4, hs5, hC5⟩ := M4.vars
              have HM4 := Aside0.mk M4
              clear M4 hs4 hC4 hs5 hC5
              have HN := Aside0.mk hN
              have HFR := Lib.hid hfr
              have HBK := Lib.hid hblk
              have HNE := Lib.hid hne
              have HNXT := Lib.hid hnext
              have HLM := Aside0.mk (show (r2.ord.length + 1) * 8 ≤ 140737488355328 by have := HI2.out.n2; have := HI2.out.l4; omega)
              have HBW := Aside0.mk HM4.out.bel
              clear hN hfr hblk hne hnext k9 k10
              go_cut [] (fun wx => Aside0 (Mid w wx g n9 b10 (r2.all ++ [⟨l0, nx⟩]) (r2.fr ++ [(i : Int)]) (r2.ms ++ [m]) (r2.far ++ [f + 1]) (r2.ord ++ [0]) (.slice (some am) L.length cL) L m l0 nx A4 c4 A5 c5))
              case first =>
               go_wp2_with (first | ((with_reducible refine gate_builtin (b := .append) (xs := #[.tmp 112, .tmp 113]) rfl ?_); at_builtin; refine R_app (Kd.int .i64) (w0 := w) (w4 := wc) w.heap.size (by rfl) (.tmp 112) (.tmp 113) 28 3 (.int .i64 0) 8 (by rfl) Try.underlying28 info3 rfl (by decide) (by omega) (.slice A6 r2.ord.length c6) r2.ord 0 [.int .i64 0] ok wc.heap.size (by rfl) (by rfl) HN.out HFR (fun _ _ => rfl) HBW.out HBW.out.size HLM.out ?g3 ?g4 ?_; (case g3 => repeat (first | exact Below.refl _ _ | apply below_drew | apply below_alloc)); (case g4 => exact blk_new _ _); intro v1 w5 ho hb hg; obtain ⟨A7, c7, rfl⟩ := Kd.R_slice ho; rw [List.length_append, List.length_singleton] at ho; have hbl := HBK w5 hg; have hq0 := blk_cell hbl 4; have hq1 := blk_frozen hbl 4; simp at hq0; have HO := Aside0.mk ho; have HB5 := Aside0.mk hb; have HG5 := Aside0.mk hg; clear ho hb hg hbl))
               all_goals (try go_meet)
               all_goals first | exact ⟨HNXT _ _ _ HO.out HB5.out HG5.out⟩ | exact ⟨(HNXT _ _ _ HO.out HB5.out HG5.out).drew⟩
              case rest =>
               clear HN HFR HBK HNE HNXT HLM HBW HM4 hcell  
               have hkle := plLow_le r2.all r2.ord nx
               generalize hkk : plLow r2.all r2.ord nx = k at hkle
               have HKK := Aside0.mk hkk
               clear hkk
               go_upto_region 16 with fail
               have M4 := hcut.out
               rw [← HFE.out] at M4
               clear hcut
               obtain ⟨v0, va, ok, hcell, ⟨A6, c6, rfl⟩, hcella, ⟨A7, c7, rfl⟩, hN, hnext⟩ := M4.row4s
               have hl4 := HI2.out.l4
               have hn2 := HI2.out.n2
               have e1 : (r2.ord ++ [(0 : Int)]).length = r2.all.length + 1 := by simp [hl4]
               rw [e1] at hcell hN hnext
               obtain ⟨gO, eO⟩ := R_some hN (by omega)
               subst eO
               have hcap := (Kd.R_reads' hN).2.1
               have hw1 : IntKind.i64.wrap ((k : Int) + 1) = (k : Int) + 1 := by rw [IntKind.wrap_i64]; omega
               have hw2 : (0 : Int) ≤ (k : Int) + 1 := by omega
               have hw3 : (k : Int) + 1 ≤ (r2.all.length : Int) + 1 := by omega
               have hw4 : (k : Int) ≤ (r2.all.length : Int) + 1 := by omega
               have hw5 : ((k : Int) + 1).toNat = k + 1 := by omega
               have hw6 : ¬ c6 = k := by omega
               have HN := Aside0.mk hN
               have HNXT := Lib.hid hnext
               have HBW := Aside0.mk M4.bel
               clear hN hnext M4
               go_cut [] (fun wx => Aside0 (Mid w wx g n9 b10 (r2.all ++ [⟨l0, nx⟩]) (r2.fr ++ [(i : Int)]) (r2.ms ++ [m]) (r2.far ++ [rd r2.far i + 1]) ((r2.ord ++ [0]).take (k + 1) ++ ((r2.ord ++ [0]).drop k).take (r2.all.length + 1 - (k + 1))) (.slice (some am) L.length cL) L m l0 nx A4 c4 A5 c5))
               case first =>
                go_region_law (first | (refine R_shift_step (w0 := w) w.heap.size (by rfl) (.tmp 123) (.tmp 129) 28 28 (by rfl) Try.underlying28 info3sz gO (r2.all.length + 1) c6 k (if c6 = k + 1 then some ⟨gO, 0, none⟩ else some ⟨gO, k + 1, none⟩) (c6 - (k + 1)) (c6 - k) (r2.ord ++ [0]) ok ?g1 ?g2 ?g3 ?g4 ?g5 (Kd.R_drew HN.out) (below_drew HBW.out) ?_; (case g1 => omega); (case g2 => simp [hl4]); (case g3 => (rw [Nat.add_sub_add_right]; rfl)); (case g4 => rfl); (case g5 => intro hlt; rw [if_neg (by omega)]); intro w5 ho hb hg; have HO := Aside0.mk ho; have HB5 := Aside0.mk hb; have HG5 := Aside0.mk hg; clear ho hb hg))
                all_goals (go_wp2_with fail)
                all_goals go_meet
                all_goals
                 have hgx := grown_of_below (below_drew (Below.refl wc.heap.size wc)) HG5.out
                 have hfin := HNXT _ w5 HO.out HB5.out hgx
                 exact ⟨hfin⟩
               case rest =>
                clear HN HNXT HBW hcell hcella hw1 hw2 hw3 hw4 hw5 hw6 hcap
                go_upto_region 17 with fail
                have M4 := hcut.out
                clear hcut
                obtain ⟨v0, va, ok, hcell, ⟨A6, c6, rfl⟩, hcella, ⟨A7, c7, rfl⟩, hN, hnext⟩ := M4.row4s
                have e2 : ((r2.ord ++ [0]).take (k + 1) ++ ((r2.ord ++ [0]).drop k).take (r2.all.length + 1 - (k + 1))).length = r2.all.length + 1 := by rw [List.length_append, List.length_take, List.length_take, List.length_drop, e1]; omega
                have e3 : (r2.all ++ [(⟨l0, nx⟩ : S33)]).length = r2.all.length + 1 := by simp
                have e4 := shift_ins r2.ord k (r2.all.length : Int) hkle
                rw [hl4] at e4
                rw [e2] at hcell hN hnext
                rw [e3] at hcella
                generalize (r2.ord ++ [0]).take (k + 1) ++ ((r2.ord ++ [0]).drop k).take (r2.all.length + 1 - (k + 1)) = ol at hcell hN hnext e2 e4
                obtain ⟨gO, eO⟩ := R_some hN (by omega)
                subst eO
                have hoc := Kd.R_cell (d := (0 : Int)) (by rw [e2]; exact hN) (k : Int) (by omega) (by rw [e2]; omega)
                rw [Int.toNat_natCast] at hoc
                obtain ⟨hoc0, hoc1⟩ := hoc
                have hkl : (k : Int) < (r2.all.length : Int) + 1 := by omega
                have HN := Aside0.mk hN
                have HNXT := Lib.hid hnext
                have HBW := Aside0.mk M4.bel
                have E4 := Aside0.mk e4
                have E2 := Aside0.mk e2
                clear hN hnext M4 e1 e2 e3 e4
                go_cut [] (fun wx => Aside0 (Mid w wx g n9 b10 (r2.all ++ [⟨l0, nx⟩]) (r2.fr ++ [(i : Int)]) (r2.ms ++ [m]) (r2.far ++ [rd r2.far i + 1]) (insAt r2.ord k (r2.all.length : Int)) (.slice (some am) L.length cL) L m l0 nx A4 c4 A5 c5))
                case first =>
                 go_region_law (fail)
                 all_goals (go_wp2_with fail; go_meet)
                 all_goals exact ⟨(HNXT _ _ (by rw [← E4.out]; have := Kd.R_putn HN.out (k : Int) (r2.all.length : Int); rw [Int.toNat_natCast] at this; rw [show IntKind.i64.wrap (r2.all.length : Int) = (r2.all.length : Int) by rw [IntKind.wrap_i64]; omega]; exact this) (HBW.out.setCell (Kd.R_base HN.out gO rfl) _) (by have := (Kd.R_putg HN.out (k : Int) (IntKind.i64.wrap (r2.all.length : Int))).2; rw [Int.toNat_natCast] at this; exact this)).drew⟩
                case rest =>
                 clear HN HNXT HBW hcell hcella hoc0 hoc1 E4 E2
                 have hcg : ∃ A7 c7, wc.cell? ⟨g, 0, none⟩ = some (.slice A7 (r2.all.length + 1) c7) := by
                  obtain ⟨v0, va, ok, hcell, ⟨A6, c6, rfl⟩, hcella, ⟨A7, c7, rfl⟩, hN, hnext⟩ := hcut.out.row4s
                  exact ⟨A7, c7, by simpa using hcella⟩
                 obtain ⟨A7, c7, hcella⟩ := hcg
                 have HML := hcut.out.memL
                 have HBW := Aside0.mk hcut.out.bel
                 have HML := Aside0.mk HML
                 clear hcut
                 by_cases hbig : 3000 < r2.all.length + 1
                 · have hbz : (3000 : Int) < (r2.all.length : Int) + 1 := by omega
                   have hq := HQ2.out
                   rw [HDROP.out, sVis] at hq
                   simp only [HX.out, HNX.out, HFD.out, if_pos hbig, Bool.false_eq_true, if_false, Option.bind_none] at hq
                   have HRES := Aside0.mk hq
                   clear hq
                   go_wp2_with fail
                   refine bodyPost_ret (v := .tuple #[.pointer (some ⟨g, 0, none⟩), .bool false]) (by simp [results, Try.results134, go_sem]) rfl ?_
                   exact ⟨g, HBW.out, by rw [← HRES.out]⟩
                 · have hbz : ¬ (3000 : Int) < (r2.all.length : Int) + 1 := by omega
                   have hq := HQ2.out
                   rw [HDROP.out, sVis] at hq
                   simp only [HX.out, HNX.out, HFD.out, if_neg hbig, Bool.false_eq_true, if_false] at hq
                   rw [HKK.out] at hq
                   have HQ3 := Aside0.mk hq
                   clear hq
                   have hm1 : j + 1 ≤ L.length := by omega
                   have hm2 : L.length - (j + 1) ≤ L.length - (j + 1) := Nat.le_refl _
                   go_wp2_with fail
                   go_roundg (L.length - (j + 1))
                   case measure => omega
                   case rel =>
                    refine ⟨j + 1, sAdd r2 i m ⟨l0, nx⟩ k, by go_num, hm1, hm2, ?_, ⟨?_⟩, HQ3, ⟨?_⟩, HML⟩
                    · simp [sAdd]; omega
                    · show rd_T33 (r2.all ++ [_]) i = _
                      rw [rdT_append_lt (by omega) (by omega)]; exact HX.out
                    · exact HI2.out.add hir m (by rw [← HNX.out]; exact beh_good HGi.out HMVV.out) hkle (by omega)

     · have hjz : ¬ (j : Int) < (L.length : Int) := by omega
       have hq := HQ2.out
       rw [List.drop_eq_nil_of_le (by omega), sVis, Option.bind_some] at hq
       have HQ4 := Aside0.mk hq
       clear hq
       have hi3 : i + 1 ≤ 3000 := by have := HI2.out.n2; omega
       have HH4 : Aside0 (Held w wr g r2) := ⟨_, _, _, _, _, _, _, _, M⟩
       have hgg3 : 3001 - (i + 1) ≤ n1 := by omega
       clear M
       go_wp2_with fail
       go_roundg n1
       case measure => omega
       case rel => exact ⟨i + 1, r2, by go_num, hi3, hgg3, HQ4, HI2, HH4⟩
  · have hltz : ¬ (i : Int) < (r.all.length : Int) := by omega
    have hq := HQ.out
    obtain ⟨n1, rfl⟩ : ∃ n1, gk = n1 + 1 := ⟨gk - 1, by omega⟩
    rw [sBfs, if_neg hlt] at hq
    have HRES := Aside0.mk hq
    have HM := Aside0.mk M
    clear hq M HQ
    go_wp2_with fail
    refine bodyPost_ret (v := .tuple #[.pointer (some ⟨g, 0, none⟩), .bool true]) (by simp [results, Try.results134, go_sem]) rfl ?_
    exact ⟨g, HM.out.bel, by rw [← HRES.out]; exact ⟨rfl, _, _, _, _, _, _, _, _, HM.out⟩⟩
end Go.Proofs.Ytjllbahhkeglfaa.P
namespace Go.Proofs.Ytjllbahhkeglfaa.P
open Go.RowKit Go.Proofs.YtjllbahhkeglfaaW.PrintWords Go.Proofs.YtjllbahhkeglfaaW.PrintLast Go.Proofs.YtjllbahhkeglfaaW.PrintMore
set_option linter.unusedVariables false
set_option linter.unusedSimpArgs false
theorem Mem.lower {w0 w1 w : World} {g : Nat} {c : Nat → Nat} {va vf vm vd vo vl : Value} {all : List S33} {fr : List Int} {ms : List S56} {far ord : List Int} {ls : List S56} (M : Mem w1 w g c va vf vm vd vo vl all fr ms far ord ls) (hb : Below w0.heap.size w0 w1) : Mem w0 w g c va vf vm vd vo vl all fr ms far ord ls :=
 ⟨M.blk, M.cg, Nat.le_trans hb.size M.gb, M.a1, Kd.N_lower M.na hb.size, Kd.R_lower M.nf hb.size, Kd.R_lower M.nm hb.size, Kd.R_lower M.nd hb.size, Kd.R_lower M.no hb.size, Kd.R_lower M.nl hb.size, below_step hb M.bel⟩
theorem AllEnd.lower {w w1 : World} {RES : Option Srch} {e : Ending} {w' : World} (h : AllEnd w1 RES e w') (hb : Below w.heap.size w w1) : AllEnd w RES e w' := by
 obtain ⟨g, hB, h⟩ := h
 refine ⟨g, below_step hb hB, ?_⟩
 cases RES with
 | none => exact h
 | some r =>
   obtain ⟨e, c, va, vf, vm, vd, vo, vl, ls, M⟩ := h
   exact ⟨e, c, va, vf, vm, vd, vo, vl, ls, M.lower hb⟩
theorem AllEnd.shape {w : World} {RES : Option Srch} {e : Ending} {w' : World} (h : AllEnd w RES e w') : ∃ g b, e = .returned (.tuple #[.pointer (some ⟨g, 0, none⟩), .bool b]) := by
 obtain ⟨g, hB, h⟩ := h
 cases RES with
 | none => exact ⟨g, false, h⟩
 | some r => exact ⟨g, true, h.1⟩
/-- What plAsked leaves. -/
def AskEnd (w : World) (s h : List Int) (cl : Bool) (e : Ending) (w' : World) : Prop :=
 if goodB s h = true then AllEnd w (sBfs s cl 3001 0 (sStart s h)) e w' else e = .returned (.tuple #[.pointer none, .bool false]) ∧ Below w.heap.size w w'
set_option maxHeartbeats 1000000 in
set_option maxRecDepth 100000 in
theorem spec_plAsked.calls (cl : Bool) (A0 A1 : Option Addr) (c0 c1 : Nat) (l0 l1 : List Int) (w : World) (hr0 : Kd.C (Kd.int .i64) w A0 l0.length l0) (hc0 : l0.length ≤ c0) (hr1 : Kd.C (Kd.int .i64) w A1 l1.length l1) (hc1 : l1.length ≤ c1) :
 Calls Try.prog 86 #[.agg #[.slice A0 l0.length c0, .slice A1 l1.length c1], .bool cl] w (AskEnd w l0 l1 cl) := by
 obtain ⟨k, hk⟩ := (spec_are_ev l0 l1).rounds
 have HC118 : Hid (∀ W, Below w.heap.size w W → Calls Try.prog 118 #[.agg #[.slice A0 l0.length c0, .slice A1 l1.length c1]] W fun e w' => e = .returned (.bool (goodB l0 l1)) ∧ Below W.heap.size W w') := by
  intro W hW
  exact (spec_veGood.calls k A0 c0 l0 A1 c1 l1 _ W (Kd.C_below hr0 hW) hc0 (Kd.C_below hr1 hW) hc1 hk)
 have HC134 : Hid (goodB l0 l1 = true → ∀ W, Below w.heap.size w W → Calls Try.prog 134 #[.agg #[.slice A0 l0.length c0, .slice A1 l1.length c1], .bool cl] W (AllEnd W (sBfs l0 cl 3001 0 (sStart l0 l1)))) := by
  intro hg W hW
  exact spec_plAll.calls cl A0 A1 c0 c1 l0 l1 W (Kd.C_below hr0 hW) hc0 (Kd.C_below hr1 hW) hc1 (goodB_iff.1 hg)
 clear hk hr0 hr1
 have hu33 := Try.underlying33
 go_enter Try.func86, Try.ntmps86
 unfold AskEnd
 cases hgb : goodB l0 l1 with
 | true =>
   rw [hgb] at HC118 HC134
   simp only [if_true]
   have b1 := below_alloc (Below.refl w.heap.size w) (.cells #[.slice A0 l0.length c0, .slice A1 l1.length c1] 33)
   have k1 := blk_new w (.cells #[.slice A0 l0.length c0, .slice A1 l1.length c1] 33)
   have HB1 := Aside0.mk b1
   have HK1 := Aside0.mk k1
   clear b1 k1
   go_wp2_with (first | (go_at_call 134; (refine ((HC134.out (by trivial)) _ HB2.out).mono ?_; intro e w2 hE; obtain ⟨g, b, rfl⟩ := hE.shape; have HE := Aside0.mk (hE.lower HB2.out); clear hE)) | (go_at_call 118; refine (HC118.out _ HB1.out).mono ?_; rintro e w1 ⟨rfl, hb⟩; have hk := blk_below HK1.out hb; have h0 := blk_cell hk 0; have h1 := blk_cell hk 1; simp at h0 h1; have HB2 := Aside0.mk (HB1.out.trans (hb.mono (by simp))); clear hb hk))
   refine bodyPost_ret (v := .tuple #[.pointer (some ⟨g, 0, none⟩), .bool b]) (by simp [results, Try.results86, go_sem]) rfl ?_
   exact HE.out
 | false =>
   rw [hgb] at HC118
   clear HC134
   simp only [Bool.false_eq_true, if_false]
   go_wp2_with (go_at_call 118; refine (HC118.out _ (below_alloc (Below.refl w.heap.size w) (.cells #[.slice A0 l0.length c0, .slice A1 l1.length c1] 33))).mono ?_; rintro e w1 ⟨rfl, hb⟩; have HB2 := Aside0.mk ((below_alloc (Below.refl w.heap.size w) (.cells #[.slice A0 l0.length c0, .slice A1 l1.length c1] 33)).trans (hb.mono (by simp))); clear hb)
   refine bodyPost_ret (v := .tuple #[.pointer none, .bool false]) (by simp [results, Try.results86, go_sem]) rfl ?_
   exact ⟨rfl, HB2.out⟩
end Go.Proofs.Ytjllbahhkeglfaa.P
namespace Go.Proofs.Ytjllbahhkeglfaa.P
open Go.RowKit Go.Proofs.YtjllbahhkeglfaaW.PrintWords Go.Proofs.YtjllbahhkeglfaaW.PrintLast Go.Proofs.YtjllbahhkeglfaaW.PrintMore
set_option linter.unusedVariables false
set_option linter.unusedSimpArgs false
theorem lessP_irr : ∀ l : List Int, lessP l l = false
 | [] => rfl
 | a :: l => by simp [lessP, lessP_irr l]
theorem lessP_trans : ∀ {l m n : List Int}, l.length = m.length → m.length = n.length → lessP l m = true → lessP m n = true → lessP l n = true
 | a :: l, b :: m, c :: n, h1, h2, h3, h4 => by
   simp only [lessP] at h3 h4 ⊢
   simp at h1 h2
   by_cases e1 : a = b
   · subst e1
     rw [if_pos rfl] at h3
     by_cases e2 : a = c
     · subst e2
       rw [if_pos rfl] at h4 ⊢
       exact lessP_trans h1 h2 h3 h4
     · rw [if_neg e2] at h4 ⊢; exact h4
   · rw [if_neg e1] at h3
     by_cases e2 : b = c
     · subst e2
       rw [if_neg e1]; exact h3
     · rw [if_neg e2] at h4
       simp at h3 h4
       rw [if_neg (by omega)]
       simp; omega
theorem lessP_total : ∀ {l m : List Int}, l.length = m.length → l ≠ m → lessP l m = false → lessP m l = true
 | [], [], _, h, _ => absurd rfl h
 | a :: l, b :: m, h1, h2, h3 => by
   simp only [lessP] at h3 ⊢
   simp at h1
   by_cases e : a = b
   · subst e
     rw [if_pos rfl] at h3 ⊢
     exact lessP_total h1 (fun e => h2 (by rw [e])) h3
   · rw [if_neg e] at h3
     rw [if_neg (fun h => e h.symm)]
     simp at h3 ⊢
     omega
theorem bs_spec (p : Nat → Bool) (N : Nat) (mono : ∀ i j, i < j → j < N → p j = true → p i = true) : ∀ (n lo hi : Nat), lo ≤ hi → hi ≤ N → hi - lo ≤ n → (∀ j, j < lo → p j = true) → (∀ j, hi ≤ j → j < N → p j = false) →
 (∀ j, j < bs p n lo hi → p j = true) ∧ (∀ j, bs p n lo hi ≤ j → j < N → p j = false)
 | 0, lo, hi, h1, h2, h3, h4, h5 => by
   have : lo = hi := by omega
   subst this
   exact ⟨h4, h5⟩
 | n + 1, lo, hi, h1, h2, h3, h4, h5 => by
   rw [bs]
   split
   · split
     · rename_i hlt hp
       refine bs_spec p N mono n _ hi (by omega) h2 (by omega) (fun j hj => ?_) h5
       by_cases e : j = (lo + hi) / 2
       · rw [e]; exact hp
       · exact mono j ((lo + hi) / 2) (by omega) (by omega) hp
     · rename_i hlt hp
       refine bs_spec p N mono n lo _ (by omega) (by omega) (by omega) h4 (fun j hj hjN => ?_)
       by_cases hpj : p j = true
       · by_cases e : j = (lo + hi) / 2
         · rw [e] at hpj; exact absurd hpj hp
         · exact absurd (mono _ j (by omega) hjN hpj) hp
       · simpa using hpj
   · have : lo = hi := by omega
     subst this
     exact ⟨h4, h5⟩
def keyAt (all : List S33) (o : Int) : List Int := (rd_T33 all o).f1
/-- The order is sorted, and knows all. -/
structure Srt (n : Nat) (r : Srch) : Prop where
 srt : (r.ord.map (keyAt r.all)).Pairwise (fun a b => lessP a b = true)
 cov : ∀ i : Nat, i < r.all.length → (i : Int) ∈ r.ord
 len : ∀ x ∈ r.all, x.f1.length = n
 ordr : ∀ o ∈ r.ord, 0 ≤ o ∧ o < r.all.length
theorem mem_at {l : List S33} {x : S33} (h : x ∈ l) : ∃ i : Nat, i < l.length ∧ rd_T33 l (i : Int) = x := by
 obtain ⟨i, hi, e⟩ := List.getElem_of_mem h
 refine ⟨i, hi, ?_⟩
 unfold rd_T33
 simp [List.getD_eq_getElem?_getD, List.getElem?_eq_getElem hi, e]
theorem Srt.keyLen {n : Nat} {r : Srch} (S : Srt n r) {o : Int} (h : o ∈ r.ord) : (keyAt r.all o).length = n := by
 have := S.ordr o h
 exact S.len _ (rdT_mem this.1 this.2)
theorem getD_ord {l : List Int} {j : Nat} (h : j < l.length) : rd l (j : Int) ∈ l := mem_rd (by omega) (by omega)
theorem Srt.lt {n : Nat} {r : Srch} (S : Srt n r) {i j : Nat} (hij : i < j) (hj : j < r.ord.length) : lessP (keyAt r.all (rd r.ord i)) (keyAt r.all (rd r.ord j)) = true := by
 have h := List.pairwise_iff_getElem.1 S.srt i j (by simpa using (by omega : i < r.ord.length)) (by simpa using hj) hij
 simpa [rd, List.getD_eq_getElem?_getD, List.getElem?_eq_getElem hj, List.getElem?_eq_getElem (by omega : i < r.ord.length)] using h
theorem Srt.low {n : Nat} {r : Srch} (S : Srt n r) {h : List Int} (hl : h.length = n) :
 (∀ j, j < plLow r.all r.ord h → j < r.ord.length → lessP (keyAt r.all (rd r.ord j)) h = true) ∧ (∀ j, plLow r.all r.ord h ≤ j → j < r.ord.length → lessP (keyAt r.all (rd r.ord j)) h = false) := by
 have hs := bs_spec (plP r.all r.ord h) r.ord.length (fun i j hij hj hp => by
  have h1 := S.lt hij hj
  have hp' : lessP (keyAt r.all (rd r.ord j)) h = true := hp
  show lessP (keyAt r.all (rd r.ord i)) h = true
  exact lessP_trans (by rw [S.keyLen (getD_ord hj), S.keyLen (getD_ord (by omega))]) (by rw [S.keyLen (getD_ord hj), hl]) h1 hp') r.ord.length 0 r.ord.length (by omega) (by omega) (by omega) (fun j hj => absurd hj (by omega)) (fun j h1 h2 => absurd h1 (by omega))
 exact ⟨fun j hj _ => hs.1 j hj, fun j hj hj2 => hs.2 j hj hj2⟩
theorem Srt.found {n : Nat} {r : Srch} (S : Srt n r) {h : List Int} (hl : h.length = n) : plFound r.all r.ord h = decide (∃ x ∈ r.all, x.f1 = h) := by
 have hlow := S.low hl
 unfold plFound
 rw [← Bool.decide_and]
 apply decide_eq_decide.2
 constructor
 · rintro ⟨h1, h2⟩
   have ho := S.ordr _ (getD_ord h1)
   exact ⟨_, rdT_mem ho.1 ho.2, h2⟩
 · rintro ⟨x, hx, rfl⟩
   obtain ⟨i, hi, rfl⟩ := mem_at hx
   obtain ⟨j, hj, e⟩ := List.getElem_of_mem (S.cov i hi)
   have ej : rd r.ord (j : Int) = (i : Int) := by simp [rd, List.getD_eq_getElem?_getD, List.getElem?_eq_getElem hj, e]
   have hkj : keyAt r.all (rd r.ord j) = (rd_T33 r.all (i : Int)).f1 := by rw [ej]; rfl
   have h1 : ¬ j < plLow r.all r.ord (rd_T33 r.all (i : Int)).f1 := by
    intro hlt
    have := hlow.1 j hlt hj
    rw [hkj, lessP_irr] at this
    cases this
   have h2 : ¬ plLow r.all r.ord (rd_T33 r.all (i : Int)).f1 < j := by
    intro hlt
    have h3 := hlow.2 _ (Nat.le_refl _) (by omega)
    have h4 := S.lt hlt hj
    rw [hkj] at h4
    rw [h4] at h3
    cases h3
   have e2 : plLow r.all r.ord (rd_T33 r.all (i : Int)).f1 = j := by omega
   refine ⟨by omega, ?_⟩
   rw [e2, ej]
theorem keyAt_old {all : List S33} {x : S33} {o : Int} (h0 : 0 ≤ o) (h1 : o < all.length) : keyAt (all ++ [x]) o = keyAt all o := by
 unfold keyAt; rw [rdT_append_lt h0 h1]
theorem rdT_append_eq {all : List S33} {x : S33} : rd_T33 (all ++ [x]) (all.length : Int) = x := by
 unfold rd_T33
 simp [List.getD_eq_getElem?_getD]
theorem Srt.add {n : Nat} {r : Srch} (S : Srt n r) (i : Nat) (m : S56) {nx : S33} (hl : nx.f1.length = n) (hf : plFound r.all r.ord nx.f1 = false) : Srt n (sAdd r i m nx (plLow r.all r.ord nx.f1)) := by
 have hlow := S.low hl
 have hno : ¬ ∃ x ∈ r.all, x.f1 = nx.f1 := by
  have := S.found hl
  rw [hf] at this
  exact of_decide_eq_false this.symm
 have hmap : ∀ l : List Int, (∀ o ∈ l, o ∈ r.ord) → l.map (keyAt (r.all ++ [nx])) = l.map (keyAt r.all) := fun l hsub => List.map_congr_left (fun o ho => keyAt_old (S.ordr o (hsub o ho)).1 (S.ordr o (hsub o ho)).2)
 have hk := plLow_le r.all r.ord nx.f1
 generalize plLow r.all r.ord nx.f1 = k at hlow hk
 have ht : ∀ a ∈ (r.ord.take k).map (keyAt r.all), lessP a nx.f1 = true := by
  intro a ha
  obtain ⟨o, ho, rfl⟩ := List.mem_map.1 ha
  obtain ⟨j, hj, e⟩ := List.getElem_of_mem ho
  have hjk : j < k ∧ j < r.ord.length := by rw [List.length_take] at hj; omega
  have := hlow.1 j hjk.1 hjk.2
  rw [List.getElem_take] at e
  simpa [rd, List.getD_eq_getElem?_getD, List.getElem?_eq_getElem hjk.2, e] using this
 have hd : ∀ a ∈ (r.ord.drop k).map (keyAt r.all), lessP nx.f1 a = true := by
  intro a ha
  obtain ⟨o, ho, rfl⟩ := List.mem_map.1 ha
  have hom := List.mem_of_mem_drop ho
  obtain ⟨j, hj, e⟩ := List.getElem_of_mem ho
  have hjk : k + j < r.ord.length := by rw [List.length_drop] at hj; omega
  have h1 := hlow.2 (k + j) (by omega) hjk
  rw [List.getElem_drop] at e
  have h2 : lessP (keyAt r.all o) nx.f1 = false := by
   have e3 : rd r.ord ((k + j : Nat) : Int) = o := by simp only [rd, Int.toNat_natCast, List.getD_eq_getElem?_getD, List.getElem?_eq_getElem hjk, e, Option.getD_some]
   rw [e3] at h1
   exact h1
  exact lessP_total (by rw [S.keyLen hom, hl]) (fun e => hno ⟨_, rdT_mem (S.ordr o hom).1 (S.ordr o hom).2, e⟩) h2
 refine ⟨?_, ?_, ?_, ?_⟩
 · show ((insAt r.ord k (r.all.length : Int)).map (keyAt (r.all ++ [nx]))).Pairwise _
   unfold insAt
   rw [List.map_append, List.map_cons, hmap _ (fun o ho => List.mem_of_mem_take ho), hmap _ (fun o ho => List.mem_of_mem_drop ho)]
   have e : keyAt (r.all ++ [nx]) (r.all.length : Int) = nx.f1 := by unfold keyAt; rw [rdT_append_eq]
   rw [e]
   have hs := S.srt
   rw [← List.take_append_drop k r.ord, List.map_append, List.pairwise_append] at hs
   rw [List.pairwise_append]
   refine ⟨hs.1, List.pairwise_cons.2 ⟨hd, hs.2.1⟩, fun a ha b hb => ?_⟩
   rcases List.mem_cons.1 hb with rfl | hb
   · exact ht a ha
   · exact hs.2.2 a ha b hb
 · intro j hj
   show (j : Int) ∈ insAt r.ord k (r.all.length : Int)
   rw [mem_insAt]
   have hj' : j < r.all.length + 1 := by simpa [sAdd] using hj
   by_cases h : j < r.all.length
   · exact .inr (S.cov j h)
   · exact .inl (by omega)
 · intro x hx
   rcases List.mem_append.1 hx with hx | hx
   · exact S.len x hx
   · rw [List.mem_singleton] at hx; rw [hx]; exact hl
 · intro o ho
   have hlen : (sAdd r i m nx k).all.length = r.all.length + 1 := by simp [sAdd]
   rw [hlen]
   rcases mem_insAt.1 ho with rfl | ho
   · omega
   · have := S.ordr o ho; omega
theorem Srt.start {s h : List Int} (G : Good s h) : Srt s.length (sStart s h) := by
 refine ⟨by simp [sStart], ?_, ?_, ?_⟩
 · intro i hi
   have : i = 0 := by simpa [sStart] using hi
   subst this
   simp [sStart]
 · intro x hx
   have : x = ⟨s, h⟩ := by simpa [sStart] using hx
   subst this
   exact G.len
 · intro o ho
   have : o = 0 := by simpa [sStart] using ho
   subst this
   simp [sStart]
/-! ### the program's search: the same, without an order -/
def fgt (r : Srch) : Srch := ⟨r.all, r.fr, r.ms, r.far, []⟩
def iAdd (r : Srch) (i : Nat) (m : S56) (nx : S33) : Srch := ⟨r.all ++ [nx], r.fr ++ [(i : Int)], r.ms ++ [m], r.far ++ [rd r.far i + 1], []⟩
def iVis (s : List Int) (M : Nat) (i : Nat) : List S56 → Srch → Option Srch
 | [], r => some r
 | m :: l, r =>
   if (∃ x ∈ r.all, x.f1 = nxt s (rd_T33 r.all i) m) then iVis s M i l r
   else if r.all.length = M then none
   else iVis s M i l (iAdd r i m ⟨s, nxt s (rd_T33 r.all i) m⟩)
def iBfs (s : List Int) (M : Nat) (c : Bool) : Nat → Nat → Srch → Option Srch
 | 0, _, r => some r
 | n + 1, i, r => if i < r.all.length then (iVis s M i (movesP s (rd_T33 r.all i).f1 c) r).bind (iBfs s M c n (i + 1)) else some r
theorem iVis_eq {s : List Int} {i : Nat} {X : S33} : ∀ (l : List S56) (r : Srch), SInv s r → Srt s.length r → i < r.all.length → rd_T33 r.all i = X → (∀ m ∈ l, isMv s.length m.f0 m.f1) → iVis s 3000 i l (fgt r) = (sVis s i l r).map fgt ∧ ∀ r', sVis s i l r = some r' → Srt s.length r'
 | [], r, I, S, hi, hX, hm => ⟨rfl, fun r' h => by injection h with h; exact h ▸ S⟩
 | m :: l, r, I, S, hi, hX, hm => by
   have G := (I.at_ (i := (i : Int)) (by omega) (by omega)).2
   have GN : Good s (nxt s (rd_T33 r.all i) m) := beh_good G (hm m (List.mem_cons_self ..))
   have hfd := S.found (h := nxt s (rd_T33 r.all i) m) GN.len
   have n2 := I.n2
   rw [sVis, iVis]
   by_cases hf : ∃ x ∈ r.all, x.f1 = nxt s (rd_T33 r.all i) m
   · rw [decide_eq_true hf] at hfd
     have ih := iVis_eq l r I S hi hX (fun m hm2 => hm m (List.mem_cons_of_mem _ hm2))
     show (if ∃ x ∈ r.all, x.f1 = nxt s (rd_T33 r.all i) m then iVis s 3000 i l (fgt r) else _) = _ ∧ _
     simp only [hfd, if_true]
     rw [if_pos hf]
     exact ih
   · rw [decide_eq_false hf] at hfd
     show (if ∃ x ∈ r.all, x.f1 = nxt s (rd_T33 r.all i) m then iVis s 3000 i l (fgt r) else if r.all.length = 3000 then none else iVis s 3000 i l (iAdd (fgt r) i m ⟨s, nxt s (rd_T33 r.all i) m⟩)) = _ ∧ _
     simp only [hfd, Bool.false_eq_true, if_false]
     rw [if_neg hf]
     by_cases hb : r.all.length = 3000
     · rw [if_pos hb, if_pos (by omega)]
       exact ⟨rfl, fun r' h => by cases h⟩
     · rw [if_neg hb, if_neg (by omega)]
       have ih := iVis_eq (X := X) l (sAdd r i m ⟨s, nxt s (rd_T33 r.all i) m⟩ (plLow r.all r.ord (nxt s (rd_T33 r.all i) m))) (I.add hi m GN (plLow_le _ _ _) (by omega)) (S.add i m (nx := ⟨s, nxt s (rd_T33 r.all i) m⟩) GN.len hfd) (Nat.lt_of_lt_of_le hi (by simp [sAdd]))
        (by show rd_T33 (r.all ++ [_]) i = X; rw [← hX]; exact rdT_append_lt (l := r.all) (j := (i : Int)) (Int.natCast_nonneg i) (Int.ofNat_lt.2 hi)) (fun m hm2 => hm m (List.mem_cons_of_mem _ hm2))
       exact ih
theorem iBfs_eq {s : List Int} {c : Bool} : ∀ (n i : Nat) (r : Srch), SInv s r → Srt s.length r → iBfs s 3000 c n i (fgt r) = (sBfs s c n i r).map fgt
 | 0, _, r, I, S => rfl
 | n + 1, i, r, I, S => by
   rw [sBfs, iBfs]
   show (if i < r.all.length then (iVis s 3000 i (movesP s (rd_T33 r.all i).f1 c) (fgt r)).bind (iBfs s 3000 c n (i + 1)) else some (fgt r)) = _
   by_cases h : i < r.all.length
   · rw [if_pos h, if_pos h]
     have hv := iVis_eq (X := rd_T33 r.all i) (movesP s (rd_T33 r.all i).f1 c) r I S h rfl (fun m hm => (movesP_mem hm).1)
     rw [hv.1]
     cases hs : sVis s i (movesP s (rd_T33 r.all i).f1 c) r with
     | none => rfl
     | some r2 => exact iBfs_eq n (i + 1) r2 (sVis_inv _ r r2 I h rfl (fun m hm => (movesP_mem hm).1) hs).1 (hv.2 r2 hs)
   · rw [if_neg h, if_neg h]; rfl
theorem search_eq {s h : List Int} (G : Good s h) (c : Bool) : iBfs s 3000 c 3001 0 (fgt (sStart s h)) = (sBfs s c 3001 0 (sStart s h)).map fgt := iBfs_eq 3001 0 _ (SInv.start G) (Srt.start G)
end Go.Proofs.Ytjllbahhkeglfaa.P
namespace Go.Proofs.Ytjllbahhkeglfaa.P
open Go.RowKit Go.Proofs.YtjllbahhkeglfaaW.PrintWords Go.Proofs.YtjllbahhkeglfaaW.PrintLast Go.Proofs.YtjllbahhkeglfaaW.PrintMore
open Go.WideMaps (ArrKey)
open Go.Maps
set_option linter.unusedVariables false
set_option linter.unusedSimpArgs false
theorem arr116 : ArrKey Try.prog 116 3 5 := ⟨Try.underlying116, by kernel_rfl, by kernel_rfl, by kernel_rfl⟩
theorem keyed116 : Keyed Try.prog 116 := Keyed.of_law arr116.law
theorem sized116 : ∃ m, Try.prog.types.size = m + 1 := ⟨Try.prog.types.size - 1, by kernel_rfl⟩
theorem keyOf_five {P : Program} {k e : TypeId} {q : IntKind} (A : ArrKey P k e 5) (he : P.underlying e = some (.int q)) (hsz : ∃ m, P.types.size = m + 1) {a b c d f : Int} (wa : (Lit.int q a).wf = true) (wb : (Lit.int q b).wf = true) (wc : (Lit.int q c).wf = true) (wd : (Lit.int q d).wf = true) (wf : (Lit.int q f).wf = true) :
 keyOf P k (.agg #[.int q a, .int q b, .int q c, .int q d, .int q f]) = some (.string (keyBytes [.int q a, .int q b, .int q c, .int q d, .int q f])) := by
 have hkt := A.keyType hsz
 obtain ⟨m, hm⟩ := hsz
 unfold keyOf
 simp only [A.hu]
 rw [if_pos (by simp [hkt, Value.formed, A.hu, A.size]), hm]
 unfold Program.keyLits
 simp only [A.hu, Value.cells]
 rw [if_pos (by rw [A.size]; rfl), show List.range 5 = [0, 1, 2, 3, 4] from rfl, List.mapM_cons, List.mapM_cons, List.mapM_cons, List.mapM_cons, List.mapM_cons, List.mapM_nil]
 simp [A.one, Program.keyLits, he, wa, wb, wc, wd, wf]
theorem wf_small {x : Int} (h0 : 0 ≤ x) (h1 : x ≤ 60) : (Lit.int .i64 x).wf = true := by
 simp [Lit.wf, IntKind.min, IntKind.max, IntKind.signed, IntKind.bits]
 omega
/-- How a key reads. -/
def kLit (l : List Int) : Lit := .string (keyBytes [.int .i64 (l.getD 0 0), .int .i64 (l.getD 1 0), .int .i64 (l.getD 2 0), .int .i64 (l.getD 3 0), .int .i64 (l.getD 4 0)])
theorem getD_small {s l : List Int} (G : Good s l) (i : Nat) : 0 ≤ l.getD i 0 ∧ l.getD i 0 ≤ 60 := by
 by_cases h : i < l.length
 · have hl := G.len
   have h1 := G.h0 (i : Int) (by omega) (by omega)
   have h2 := G.s1 (i : Int) (by omega) (by omega)
   have e : rd l (i : Int) = l.getD i 0 := by simp [rd]
   omega
 · simp [List.getD_eq_getElem?_getD, List.getElem?_eq_none (by omega : l.length ≤ i)]
theorem keyOf_key {s l : List Int} (G : Good s l) : keyOf Try.prog 116 (.agg (keyCells l)) = some (kLit l) :=
 keyOf_five arr116 Try.underlying3 sized116 (wf_small (getD_small G 0).1 (getD_small G 0).2) (wf_small (getD_small G 1).1 (getD_small G 1).2) (wf_small (getD_small G 2).1 (getD_small G 2).2) (wf_small (getD_small G 3).1 (getD_small G 3).2) (wf_small (getD_small G 4).1 (getD_small G 4).2)
/-- Keys tell vessels of the same sizes apart. -/
theorem kLit_inj {s l m : List Int} (G : Good s l) (H : Good s m) (h : kLit l = kLit m) : l = m := by
 have e := keyed116.inj (keyOf_key G) (h ▸ keyOf_key H)
 have hl := G.len
 have hm := H.len
 have n5 := G.n5
 simp only [keyCells, Value.agg.injEq, Array.mk.injEq, List.cons.injEq, Value.int.injEq, true_and, and_true] at e
 obtain ⟨e0, e1, e2, e3, e4⟩ := e
 apply List.ext_getElem?
 intro i
 by_cases hi : i < l.length
 · have h1 : l.getD i 0 = m.getD i 0 := by
    rcases (show i = 0 ∨ i = 1 ∨ i = 2 ∨ i = 3 ∨ i = 4 by omega) with rfl | rfl | rfl | rfl | rfl <;> assumption
   rw [List.getD_eq_getElem?_getD, List.getD_eq_getElem?_getD, List.getElem?_eq_getElem hi, List.getElem?_eq_getElem (by omega : i < m.length)] at h1
   rw [List.getElem?_eq_getElem hi, List.getElem?_eq_getElem (by omega : i < m.length)]
   simpa using h1
 · rw [List.getElem?_eq_none (by omega), List.getElem?_eq_none (by omega)]
/-- The map knows just the vessels of the list. -/
def Knows (D : DataW Nat) (s : List Int) (all : List S33) : Prop := ∀ h : List Int, Good s h → Maps.has D (kLit h) = decide (∃ x ∈ all, x.f1 = h)
theorem Knows.add {D : DataW Nat} {s : List Int} {all : List S33} (K : Knows D s all) (hD : IsMap D) {x : S33} (G : Good s x.f1) (d : DataW Nat) : Knows (D.put (kLit x.f1) d) s (all ++ [x]) := by
 intro h H
 by_cases e : h = x.f1
 · subst e
   rw [has_put_same hD (keyed116.key (keyOf_key G))]
   simp
 · have hne : kLit h ≠ kLit x.f1 := fun he => e (kLit_inj H G he)
   rw [has_put_other hne, K h H]
   have : (∃ y ∈ all ++ [x], y.f1 = h) ↔ (∃ y ∈ all, y.f1 = h) := by
    constructor
    · rintro ⟨y, hy, rfl⟩
      rcases List.mem_append.1 hy with hy | hy
      · exact ⟨y, hy, rfl⟩
      · rw [List.mem_singleton] at hy
        exact absurd (by rw [hy]) e
    · rintro ⟨y, hy, rfl⟩
      exact ⟨y, List.mem_append_left _ hy, rfl⟩
   simp only [this]
theorem Knows.nil (s : List Int) : Knows (.map []) s [] := by
 intro h H
 have : ¬ ∃ x ∈ ([] : List S33), x.f1 = h := by rintro ⟨x, hx, _⟩; cases hx
 rw [decide_eq_false this]
 rfl
end Go.Proofs.Ytjllbahhkeglfaa.P
namespace Go.Proofs.Ytjllbahhkeglfaa.P
open Go.RowKit Go.Proofs.YtjllbahhkeglfaaW.PrintWords Go.Proofs.YtjllbahhkeglfaaW.PrintLast Go.Proofs.YtjllbahhkeglfaaW.PrintMore
open Go.Maps
set_option linter.unusedVariables false
set_option linter.unusedSimpArgs false
/-- The rows fit: as the reference's do with some order. -/
def IInv (s : List Int) (r : Srch) : Prop := ∃ o, SInv s ⟨r.all, r.fr, r.ms, r.far, o⟩
theorem IInv.of {s : List Int} {r : Srch} (I : SInv s r) : IInv s (fgt r) := ⟨r.ord, I⟩
section
variable {s : List Int} {r : Srch}
theorem IInv.n1 (h : IInv s r) : 1 ≤ r.all.length := by obtain ⟨o, I⟩ := h; exact I.n1
theorem IInv.n2 (h : IInv s r) : r.all.length ≤ 3000 := by obtain ⟨o, I⟩ := h; exact I.n2
theorem IInv.l1 (h : IInv s r) : r.fr.length = r.all.length := by obtain ⟨o, I⟩ := h; exact I.l1
theorem IInv.l2 (h : IInv s r) : r.ms.length = r.all.length := by obtain ⟨o, I⟩ := h; exact I.l2
theorem IInv.l3 (h : IInv s r) : r.far.length = r.all.length := by obtain ⟨o, I⟩ := h; exact I.l3
theorem IInv.good (h : IInv s r) : ∀ x ∈ r.all, x.f0 = s ∧ Good s x.f1 := by obtain ⟨o, I⟩ := h; exact I.good
theorem IInv.at_ (h : IInv s r) {i : Int} (h0 : 0 ≤ i) (h1 : i < r.all.length) : (rd_T33 r.all i).f0 = s ∧ Good s (rd_T33 r.all i).f1 := by obtain ⟨o, I⟩ := h; exact I.at_ h0 h1
theorem IInv.farr (h : IInv s r) : ∀ j : Int, 0 ≤ j → j < r.all.length → 0 ≤ rd r.far j ∧ rd r.far j ≤ j := by obtain ⟨o, I⟩ := h; exact I.farr
theorem IInv.frr (h : IInv s r) : ∀ j : Int, 0 ≤ j → j < r.all.length → rd r.fr j < j := by obtain ⟨o, I⟩ := h; exact I.frr
theorem IInv.add (h : IInv s r) {i : Nat} (hi : i < r.all.length) (m : S56) {nx : List Int} (hG : Good s nx) (hn : r.all.length + 1 ≤ 3000) : IInv s (iAdd r i m ⟨s, nx⟩) := by
 obtain ⟨o, I⟩ := h
 exact ⟨_, I.add (r := ⟨r.all, r.fr, r.ms, r.far, o⟩) hi m hG (k := 0) (Nat.zero_le _) hn⟩
end
/-- The map knows just the vessels of the list, each one's place. -/
structure KInv (D : DataW Nat) (s : List Int) (all : List S33) : Prop where
 knows : Knows D s all
 places : ∀ i : Nat, i < all.length → D.atKey (kLit (rd_T33 all (i : Int)).f1) (.lit (.int .i64 0)) = .lit (.int .i64 i)
theorem KInv.add {D : DataW Nat} {s : List Int} {all : List S33} (K : KInv D s all) (hD : IsMap D) {x : S33} (G : Good s x.f1) (hall : ∀ y ∈ all, Good s y.f1) (hno : ¬ ∃ y ∈ all, y.f1 = x.f1) :
 KInv (D.put (kLit x.f1) (.lit (.int .i64 all.length))) s (all ++ [x]) := by
 refine ⟨K.knows.add hD G _, fun i hi => ?_⟩
 by_cases h : i < all.length
 · have e : rd_T33 (all ++ [x]) (i : Int) = rd_T33 all (i : Int) := rdT_append_lt (by omega) (by omega)
   have hm : rd_T33 all (i : Int) ∈ all := rdT_mem (by omega) (by omega)
   have hne : kLit (rd_T33 all (i : Int)).f1 ≠ kLit x.f1 := fun he => hno ⟨_, hm, kLit_inj (hall _ hm) G he⟩
   rw [e, atKey_put_other hne]
   exact K.places i h
 · have hil : i = all.length := by rw [List.length_append, List.length_singleton] at hi; omega
   subst hil
   rw [rdT_append_eq, atKey_put_same hD (keyed116.key (keyOf_key G))]
theorem KInv.nil (s : List Int) : KInv (.map []) s [] := ⟨Knows.nil s, fun i hi => absurd hi (by simp)⟩
/-- The map with the first vessels alone. -/
theorem KInv.start {s h : List Int} (G : Good s h) : KInv ((DataW.map []).put (kLit h) (.lit (.int .i64 0))) s [⟨s, h⟩] := by
 have := (KInv.nil s).add ⟨_, rfl⟩ (x := ⟨s, h⟩) G (fun y hy => by cases hy) (by rintro ⟨y, hy, _⟩; cases hy)
 exact this
theorem iVis_le {s : List Int} {M i : Nat} : ∀ (l : List S56) (r r' : Srch), r.all.length ≤ M → iVis s M i l r = some r' → r'.all.length ≤ M
 | [], r, r', h, e => by injection e with e; exact e ▸ h
 | m :: l, r, r', h, e => by
   rw [iVis] at e
   split at e
   · exact iVis_le l r r' h e
   · split at e
     · cases e
     · exact iVis_le l _ r' (by simp [iAdd]; omega) e
end Go.Proofs.Ytjllbahhkeglfaa.P
namespace Go.Proofs.Ytjllbahhkeglfaa.P
open Go.RowKit Go.Proofs.YtjllbahhkeglfaaW.PrintWords Go.Proofs.YtjllbahhkeglfaaW.PrintLast Go.Proofs.YtjllbahhkeglfaaW.PrintMore
set_option linter.unusedVariables false
set_option linter.unusedSimpArgs false
/-- The map in block b. -/
def OM (w : World) (b n : Nat) (D : DataW Nat) : Prop := w.ownsMap Try.prog 116 (plainElem Try.prog 3) b n D
/-- Block g holds cs; the rows are not yet bound to what cs says. -/
structure MemC (w0 w : World) (g b : Nat) (c : Nat → Nat) (cs : Array Value) (va vd vf vm vl : Value) (all : List S33) (far fr : List Int) (ms : List S56) (ls : List S56) (n : Nat) (D : DataW Nat) : Prop where
 blk : w.heap[g]? = some (.cells cs 97 (0, 0))
 cg : c g = 9
 gb : w0.heap.size ≤ g
 cb : c b = 5
 bb : w0.heap.size ≤ b
 mp : OM w b n D
 a1 : ∀ k, va.ownBlock = some k → c k = 1
 na : Kd.N k33 33 w w0.heap.size (ok1 c) va all
 nd : Kd.R (Kd.int .i64) 3 w w0.heap.size (fun k => c k = 4) vd far
 nf : Kd.R (Kd.int .i64) 3 w w0.heap.size (fun k => c k = 2) vf fr
 nm : Kd.R k56 56 w w0.heap.size (fun k => c k = 3) vm ms
 nl : Kd.R k56 56 w w0.heap.size (fun k => c k = 7) vl ls
 bel : Below w0.heap.size w0 w
 lo : ∀ k, k < w0.heap.size → c k = 0
section
variable {w0 w w1 : World} {g b : Nat} {c : Nat → Nat} {cs : Array Value} {va vd vf vm vl : Value} {all : List S33} {far fr : List Int} {ms : List S56} {ls : List S56} {n : Nat} {D : DataW Nat}
theorem OM.kept {row : Option Nat} (h : OM w b n D) (hg : w.grownBy w1 row) (hne : some b ≠ row) : OM w1 b n D := World.ownsMap.kept h hg hne
theorem OM.below (h : OM w b n D) (hb : Below w.heap.size w w1) : OM w1 b n D := by
 obtain ⟨es, clock, hk, F, hs, e⟩ := h
 exact ⟨es, clock, (hb.block b (Array.getElem?_eq_some_iff.1 hk).1).trans hk, F, hs, e⟩
theorem OM.blk (h : OM w b n D) (hk : w1.heap[b]? = w.heap[b]?) : OM w1 b n D := by
 obtain ⟨es, clock, hb, F, hs, e⟩ := h
 exact ⟨es, clock, hk.trans hb, F, hs, e⟩
theorem OM.lt (h : OM w b n D) : b < w.heap.size := World.ownsMap.lt h
theorem MemC.upd (M : MemC w0 w g b c cs va vd vf vm vl all far fr ms ls n D) (j : Nat) : MemC w0 w g b (upd c w.heap.size j) cs va vd vf vm vl all far fr ms ls n D :=
 ⟨M.blk, (upd_lt (blk_lt M.blk)).trans M.cg, M.gb, (upd_lt M.mp.lt).trans M.cb, M.bb, M.mp, fun k hk => (upd_lt (Kd.N_lt M.na k hk)).trans (M.a1 k hk), N2_upd M.na j, R_upd M.nd j, R_upd M.nf j, R_upd M.nm j, R_upd M.nl j, M.bel, fun k hk => (upd_lt (Nat.lt_of_lt_of_le hk M.bel.size)).trans (M.lo k hk)⟩
theorem MemC.below (M : MemC w0 w g b c cs va vd vf vm vl all far fr ms ls n D) (hb : Below w.heap.size w w1) : MemC w0 w1 g b c cs va vd vf vm vl all far fr ms ls n D :=
 ⟨blk_below M.blk hb, M.cg, M.gb, M.cb, M.bb, M.mp.below hb, M.a1, Kd.N_below M.na hb, Kd.R_below M.nd hb, Kd.R_below M.nf hb, Kd.R_below M.nm hb, Kd.R_below M.nl hb, below_step M.bel hb, M.lo⟩
theorem MemC.list (M : MemC w0 w g b c cs va vd vf vm vl all far fr ms ls n D) {v : Value} {l : List S56} (h : Kd.R k56 56 w w0.heap.size (fun k => c k = 7) v l) : MemC w0 w g b c cs va vd vf vm v all far fr ms l n D := ⟨M.blk, M.cg, M.gb, M.cb, M.bb, M.mp, M.a1, M.na, M.nd, M.nf, M.nm, h, M.bel, M.lo⟩
/-- A store in the variable. -/
theorem MemC.setg (M : MemC w0 w g b c cs va vd vf vm vl all far fr ms ls n D) (i : Nat) (v : Value) : MemC w0 (w.setCell ⟨g, i, none⟩ v) g b c (cs.setIfInBounds i v) va vd vf vm vl all far fr ms ls n D := by
 have hk : ∀ k, k < w.heap.size → k ≠ g → (w.setCell ⟨g, i, none⟩ v).heap[k]? = w.heap[k]? := fun k _ hne => Below.heap_setCell w _ v k hne
 have hbg : b ≠ g := fun e => absurd (M.cb.symm.trans ((congrArg c e).trans M.cg)) (by decide)
 exact ⟨blk_set M.blk i v, M.cg, M.gb, M.cb, M.bb, M.mp.blk (hk b M.mp.lt hbg), M.a1, N2_blk M.na M.cg (by decide) (by decide) hk, R_blk M.nd M.cg (by decide) hk, R_blk M.nf M.cg (by decide) hk, R_blk M.nm M.cg (by decide) hk, R_blk M.nl M.cg (by decide) hk, M.bel.setCell M.gb _, M.lo⟩
/-- A store in the map. -/
theorem MemC.mapg (M : MemC w0 w g b c cs va vd vf vm vl all far fr ms ls n D) {n1 : Nat} {D1 : DataW Nat} (h : OM w1 b n1 D1) (hg : w.grownBy w1 (some b)) (hb : Below w0.heap.size w0 w1) : MemC w0 w1 g b c cs va vd vf vm vl all far fr ms ls n1 D1 := by
 have hk : ∀ k, k < w.heap.size → k ≠ b → w1.heap[k]? = w.heap[k]? := fun k hk hne => hg.block k hk (fun e => hne (Option.some.inj e))
 have hgb : g ≠ b := fun e => absurd (M.cb.symm.trans ((congrArg c e.symm).trans M.cg)) (by decide)
 exact ⟨(hk g (blk_lt M.blk) hgb).trans M.blk, M.cg, M.gb, M.cb, M.bb, h, M.a1, N2_blk M.na M.cb (by decide) (by decide) hk, R_blk M.nd M.cb (by decide) hk, R_blk M.nf M.cb (by decide) hk, R_blk M.nm M.cb (by decide) hk, R_blk M.nl M.cb (by decide) hk, hb, M.lo⟩
/-- A row grows. -/
theorem MemC.grow0 (M : MemC w0 w g b c cs va vd vf vm vl all far fr ms ls n D) (v : Value) (l : List S33) (hg : w.grownBy w1 va.ownBlock) (hb : Below w0.heap.size w0 w1) (h : Kd.N k33 33 w1 w0.heap.size (ok1 c) v l) (ha1 : ∀ k, v.ownBlock = some k → c k = 1) : MemC w0 w1 g b c cs v vd vf vm vl l far fr ms ls n D :=
 ⟨blk_grown M.blk hg (fun e => absurd ((M.a1 g e.symm).symm.trans M.cg) (by decide)), M.cg, M.gb, M.cb, M.bb, M.mp.kept hg (fun e => absurd ((M.a1 b e.symm).symm.trans M.cb) (by decide)), ha1, h, R_oth M.nd M.a1 (by decide) hg, R_oth M.nf M.a1 (by decide) hg, R_oth M.nm M.a1 (by decide) hg, R_oth M.nl M.a1 (by decide) hg, hb, M.lo⟩
/-- A row grows. -/
theorem MemC.grow1 (M : MemC w0 w g b c cs va vd vf vm vl all far fr ms ls n D) (v : Value) (l : List Int) (hg : w.grownBy w1 vd.ownBlock) (hb : Below w0.heap.size w0 w1) (h : Kd.R (Kd.int .i64) 3 w1 w0.heap.size (fun k => c k = 4) v l) : MemC w0 w1 g b c cs va v vf vm vl all l fr ms ls n D :=
 ⟨blk_grown M.blk hg (fun e => absurd ((M.nd.1 g e.symm).symm.trans M.cg) (by decide)), M.cg, M.gb, M.cb, M.bb, M.mp.kept hg (fun e => absurd ((M.nd.1 b e.symm).symm.trans M.cb) (by decide)), M.a1, N2_oth M.na M.nd.1 (by decide) (by decide) hg, h, R_oth M.nf M.nd.1 (by decide) hg, R_oth M.nm M.nd.1 (by decide) hg, R_oth M.nl M.nd.1 (by decide) hg, hb, M.lo⟩
/-- A row grows. -/
theorem MemC.grow2 (M : MemC w0 w g b c cs va vd vf vm vl all far fr ms ls n D) (v : Value) (l : List Int) (hg : w.grownBy w1 vf.ownBlock) (hb : Below w0.heap.size w0 w1) (h : Kd.R (Kd.int .i64) 3 w1 w0.heap.size (fun k => c k = 2) v l) : MemC w0 w1 g b c cs va vd v vm vl all far l ms ls n D :=
 ⟨blk_grown M.blk hg (fun e => absurd ((M.nf.1 g e.symm).symm.trans M.cg) (by decide)), M.cg, M.gb, M.cb, M.bb, M.mp.kept hg (fun e => absurd ((M.nf.1 b e.symm).symm.trans M.cb) (by decide)), M.a1, N2_oth M.na M.nf.1 (by decide) (by decide) hg, R_oth M.nd M.nf.1 (by decide) hg, h, R_oth M.nm M.nf.1 (by decide) hg, R_oth M.nl M.nf.1 (by decide) hg, hb, M.lo⟩
/-- A row grows. -/
theorem MemC.grow3 (M : MemC w0 w g b c cs va vd vf vm vl all far fr ms ls n D) (v : Value) (l : List S56) (hg : w.grownBy w1 vm.ownBlock) (hb : Below w0.heap.size w0 w1) (h : Kd.R k56 56 w1 w0.heap.size (fun k => c k = 3) v l) : MemC w0 w1 g b c cs va vd vf v vl all far fr l ls n D :=
 ⟨blk_grown M.blk hg (fun e => absurd ((M.nm.1 g e.symm).symm.trans M.cg) (by decide)), M.cg, M.gb, M.cb, M.bb, M.mp.kept hg (fun e => absurd ((M.nm.1 b e.symm).symm.trans M.cb) (by decide)), M.a1, N2_oth M.na M.nm.1 (by decide) (by decide) hg, R_oth M.nd M.nm.1 (by decide) hg, R_oth M.nf M.nm.1 (by decide) hg, h, R_oth M.nl M.nm.1 (by decide) hg, hb, M.lo⟩
end
end Go.Proofs.Ytjllbahhkeglfaa.P
namespace Go.Proofs.Ytjllbahhkeglfaa.P
open Go.RowKit Go.Proofs.YtjllbahhkeglfaaW.PrintWords Go.Proofs.YtjllbahhkeglfaaW.PrintLast Go.Proofs.YtjllbahhkeglfaaW.PrintMore
set_option linter.unusedVariables false
set_option linter.unusedSimpArgs false
def z97 : Array Value := #[.slice none 0 0, .map none, .slice none 0 0, .slice none 0 0, .slice none 0 0]
def D1 (l1 : List Int) : DataW Nat := (DataW.map []).put (kLit l1) (.lit (.int .i64 0))
/-- b: which parts are made. -/
structure L3 (w2 w' : World) (b : Nat → Bool) (c : Nat → Nat) (v0 v1 m7 m12 : Value) (l0 l1 : List Int) (b21 b22 b26 b27 b29 b8 : Nat) : Prop where
 bel : Below w2.heap.size w2 w'
 lo : ∀ k, k < w2.heap.size → c k = 0
 f1 : b 1 = true → Kd.FK k33 w' (fun k => c k = 6) ⟨l0, l1⟩ [v0, v1]
 f2 : b 2 = true → Kd.N k33 33 w' w2.heap.size (ok1 c) (.slice (some ⟨b21, 0, none⟩) 1 1) [⟨l0, l1⟩] ∧ c b21 = 1
 f3 : b 3 = true → b 6 = false → OM w' b22 0 (.map [])
 f3c : b 3 = true → c b22 = 5 ∧ w2.heap.size ≤ b22 ∧ b22 < w'.heap.size
 f6 : b 6 = true → OM w' b22 1 (D1 l1)
 f7 : b 7 = true → m7 = .map (some b22)
 f8 : b 8 = true → Kd.R (Kd.int .i64) 3 w' w2.heap.size (fun k => c k = 4) (.slice (some ⟨b26, 0, none⟩) 1 1) [0]
 f9 : b 9 = true → Kd.R (Kd.int .i64) 3 w' w2.heap.size (fun k => c k = 2) (.slice (some ⟨b27, 0, none⟩) 1 1) [-1]
 f11 : b 11 = true → Kd.R k56 56 w' w2.heap.size (fun k => c k = 3) (.slice (some ⟨b29, 0, none⟩) 1 1) [⟨0, 0⟩]
 f12 : b 12 = true → m12 = .agg #[.slice (some ⟨b21, 0, none⟩) 1 1, .map (some b22), .slice (some ⟨b26, 0, none⟩) 1 1, .slice (some ⟨b27, 0, none⟩) 1 1, .slice (some ⟨b29, 0, none⟩) 1 1]
 f13 : b 13 = true → w'.heap[b8]? = some (.cells z97 97 (0, 0)) ∧ c b8 = 9 ∧ w2.heap.size ≤ b8
section
variable {w2 w' w1 : World} {b : Nat → Bool} {c : Nat → Nat} {v0 v1 m7 m12 : Value} {l0 l1 : List Int} {b21 b22 b26 b27 b29 b8 : Nat}
/-- More happens, and none of it below: what is new has a colour of its own. -/
theorem L3.mv (h : L3 w2 w' b c v0 v1 m7 m12 l0 l1 b21 b22 b26 b27 b29 b8) (hb : Below w'.heap.size w' w1) (j : Nat) : L3 w2 w1 b (upd c w'.heap.size j) v0 v1 m7 m12 l0 l1 b21 b22 b26 b27 b29 b8 :=
 ⟨below_step h.bel hb, fun k hk => (upd_lt (Nat.lt_of_lt_of_le hk h.bel.size)).trans (h.lo k hk), fun q => Kd.FK_below (FK_col (h.f1 q) (fun k hk => upd_lt hk)) hb, fun q => ⟨Kd.N_below (N2_upd (h.f2 q).1 j) hb, (upd_lt (Kd.N_lt (h.f2 q).1 b21 rfl)).trans (h.f2 q).2⟩, fun q q' => (h.f3 q q').below hb,
   fun q => ⟨(upd_lt (h.f3c q).2.2).trans (h.f3c q).1, (h.f3c q).2.1, Nat.lt_of_lt_of_le (h.f3c q).2.2 hb.size⟩, fun q => (h.f6 q).below hb, h.f7, fun q => Kd.R_below (R_upd (h.f8 q) j) hb, fun q => Kd.R_below (R_upd (h.f9 q) j) hb, fun q => Kd.R_below (R_upd (h.f11 q) j) hb, h.f12,
   fun q => ⟨blk_below (h.f13 q).1 hb, (upd_lt (blk_lt (h.f13 q).1)).trans (h.f13 q).2.1, (h.f13 q).2.2⟩⟩
theorem L3.nop0 (h : L3 w2 w' b c v0 v1 m7 m12 l0 l1 b21 b22 b26 b27 b29 b8) : L3 w2 w' (up b 0) c v0 v1 m7 m12 l0 l1 b21 b22 b26 b27 b29 b8 :=
 ⟨h.bel, h.lo, fun q => h.f1 ((up_ne (by decide)).symm.trans q), fun q => h.f2 ((up_ne (by decide)).symm.trans q), fun q q2 => h.f3 ((up_ne (by decide)).symm.trans q) ((up_ne (by decide)).symm.trans q2), fun q => h.f3c ((up_ne (by decide)).symm.trans q), fun q => h.f6 ((up_ne (by decide)).symm.trans q), fun q => h.f7 ((up_ne (by decide)).symm.trans q), fun q => h.f8 ((up_ne (by decide)).symm.trans q), fun q => h.f9 ((up_ne (by decide)).symm.trans q), fun q => h.f11 ((up_ne (by decide)).symm.trans q), fun q => h.f12 ((up_ne (by decide)).symm.trans q), fun q => h.f13 ((up_ne (by decide)).symm.trans q)⟩
theorem L3.nop4 (h : L3 w2 w' b c v0 v1 m7 m12 l0 l1 b21 b22 b26 b27 b29 b8) : L3 w2 w' (up b 4) c v0 v1 m7 m12 l0 l1 b21 b22 b26 b27 b29 b8 :=
 ⟨h.bel, h.lo, fun q => h.f1 ((up_ne (by decide)).symm.trans q), fun q => h.f2 ((up_ne (by decide)).symm.trans q), fun q q2 => h.f3 ((up_ne (by decide)).symm.trans q) ((up_ne (by decide)).symm.trans q2), fun q => h.f3c ((up_ne (by decide)).symm.trans q), fun q => h.f6 ((up_ne (by decide)).symm.trans q), fun q => h.f7 ((up_ne (by decide)).symm.trans q), fun q => h.f8 ((up_ne (by decide)).symm.trans q), fun q => h.f9 ((up_ne (by decide)).symm.trans q), fun q => h.f11 ((up_ne (by decide)).symm.trans q), fun q => h.f12 ((up_ne (by decide)).symm.trans q), fun q => h.f13 ((up_ne (by decide)).symm.trans q)⟩
theorem L3.nop5 (h : L3 w2 w' b c v0 v1 m7 m12 l0 l1 b21 b22 b26 b27 b29 b8) : L3 w2 w' (up b 5) c v0 v1 m7 m12 l0 l1 b21 b22 b26 b27 b29 b8 :=
 ⟨h.bel, h.lo, fun q => h.f1 ((up_ne (by decide)).symm.trans q), fun q => h.f2 ((up_ne (by decide)).symm.trans q), fun q q2 => h.f3 ((up_ne (by decide)).symm.trans q) ((up_ne (by decide)).symm.trans q2), fun q => h.f3c ((up_ne (by decide)).symm.trans q), fun q => h.f6 ((up_ne (by decide)).symm.trans q), fun q => h.f7 ((up_ne (by decide)).symm.trans q), fun q => h.f8 ((up_ne (by decide)).symm.trans q), fun q => h.f9 ((up_ne (by decide)).symm.trans q), fun q => h.f11 ((up_ne (by decide)).symm.trans q), fun q => h.f12 ((up_ne (by decide)).symm.trans q), fun q => h.f13 ((up_ne (by decide)).symm.trans q)⟩
theorem L3.nop10 (h : L3 w2 w' b c v0 v1 m7 m12 l0 l1 b21 b22 b26 b27 b29 b8) : L3 w2 w' (up b 10) c v0 v1 m7 m12 l0 l1 b21 b22 b26 b27 b29 b8 :=
 ⟨h.bel, h.lo, fun q => h.f1 ((up_ne (by decide)).symm.trans q), fun q => h.f2 ((up_ne (by decide)).symm.trans q), fun q q2 => h.f3 ((up_ne (by decide)).symm.trans q) ((up_ne (by decide)).symm.trans q2), fun q => h.f3c ((up_ne (by decide)).symm.trans q), fun q => h.f6 ((up_ne (by decide)).symm.trans q), fun q => h.f7 ((up_ne (by decide)).symm.trans q), fun q => h.f8 ((up_ne (by decide)).symm.trans q), fun q => h.f9 ((up_ne (by decide)).symm.trans q), fun q => h.f11 ((up_ne (by decide)).symm.trans q), fun q => h.f12 ((up_ne (by decide)).symm.trans q), fun q => h.f13 ((up_ne (by decide)).symm.trans q)⟩
theorem L3.add1 {A4 A5 : Option Addr} {c4 c5 : Nat} {o4 o5 : Nat → Prop} (h : L3 w2 w' b c v0 v1 m7 m12 l0 l1 b21 b22 b26 b27 b29 b8) (hb : Below w'.heap.size w' w1) (h4 : Kd.R (Kd.int .i64) 3 w1 w'.heap.size o4 (.slice A4 l0.length c4) l0) (h5 : Kd.R (Kd.int .i64) 3 w1 w'.heap.size o5 (.slice A5 l1.length c5) l1) : L3 w2 w1 (up b 1) (upd c w'.heap.size 6) (.slice A4 l0.length c4) (.slice A5 l1.length c5) m7 m12 l0 l1 b21 b22 b26 b27 b29 b8 := by
 have M := h.mv hb 6
 have e4 : l0.length ≤ c4 := by obtain ⟨A, cc, e, hl, _⟩ := Kd.R_reads h4; simp only [Value.slice.injEq] at e; omega
 have e5 : l1.length ≤ c5 := by obtain ⟨A, cc, e, hl, _⟩ := Kd.R_reads h5; simp only [Value.slice.injEq] at e; omega
 have f4 : Kd.F (Kd.int .i64) w1 (fun k => upd c w'.heap.size 6 k = 6) A4 l0.length l0 := Kd.F_mono (Kd.F_bound (F_of_R (Kd.R_tight (d := Kd.int .i64) rfl (Kd.R_bound h4)))) (fun k hk => upd_ge (Kd.R_base h4 k hk.1.symm))
 have f5 : Kd.F (Kd.int .i64) w1 (fun k => upd c w'.heap.size 6 k = 6) A5 l1.length l1 := Kd.F_mono (Kd.F_bound (F_of_R (Kd.R_tight (d := Kd.int .i64) rfl (Kd.R_bound h5)))) (fun k hk => upd_ge (Kd.R_base h5 k hk.1.symm))
 exact ⟨M.bel, M.lo, fun _ => k33_mkF w1 _ ⟨l0, l1⟩ e4 f4 e5 f5, fun q => M.f2 ((up_ne (by decide)).symm.trans q), fun q q2 => M.f3 ((up_ne (by decide)).symm.trans q) ((up_ne (by decide)).symm.trans q2), fun q => M.f3c ((up_ne (by decide)).symm.trans q), fun q => M.f6 ((up_ne (by decide)).symm.trans q), fun q => M.f7 ((up_ne (by decide)).symm.trans q), fun q => M.f8 ((up_ne (by decide)).symm.trans q), fun q => M.f9 ((up_ne (by decide)).symm.trans q), fun q => M.f11 ((up_ne (by decide)).symm.trans q), fun q => M.f12 ((up_ne (by decide)).symm.trans q), fun q => M.f13 ((up_ne (by decide)).symm.trans q)⟩
theorem L3.add2 (h : L3 w2 w' b c v0 v1 m7 m12 l0 l1 b21 b22 b26 b27 b29 b8) (hb1 : b 1 = true) (hb12 : b 12 = false) : L3 w2 (w'.alloc (.cells #[v0, v1] 33)) (up b 2) (upd c w'.heap.size 1) v0 v1 m7 m12 l0 l1 w'.heap.size b22 b26 b27 b29 b8 := by
 have M := h.mv (below_alloc (Below.refl _ _) (.cells #[v0, v1] 33)) 1
 have hF := M.f1 hb1
 refine ⟨M.bel, M.lo, fun q => M.f1 ((up_ne (by decide)).symm.trans q), fun _ => ⟨N_one (cs := [v0, v1]) h.bel.size (.inl (upd_ge (Nat.le_refl _))) (Kd.FK_mono hF (fun k hk => ⟨.inr hk, fun e => absurd (hk.symm.trans ((congrArg _ e).trans (upd_ge (Nat.le_refl _)))) (by decide)⟩)), upd_ge (Nat.le_refl _)⟩, fun q q2 => M.f3 ((up_ne (by decide)).symm.trans q) ((up_ne (by decide)).symm.trans q2), fun q => M.f3c ((up_ne (by decide)).symm.trans q), fun q => M.f6 ((up_ne (by decide)).symm.trans q), fun q => M.f7 ((up_ne (by decide)).symm.trans q), fun q => M.f8 ((up_ne (by decide)).symm.trans q), fun q => M.f9 ((up_ne (by decide)).symm.trans q), fun q => M.f11 ((up_ne (by decide)).symm.trans q), fun q => absurd (((up_ne (by decide)).symm.trans q).symm.trans hb12) (by decide), fun q => M.f13 ((up_ne (by decide)).symm.trans q)⟩
theorem L3.add3 (h : L3 w2 w' b c v0 v1 m7 m12 l0 l1 b21 b22 b26 b27 b29 b8) (hb6 : b 6 = false) (hb7 : b 7 = false) (hb12 : b 12 = false) : L3 w2 (w'.alloc (.map #[] 0)) (up b 3) (upd c w'.heap.size 5) v0 v1 m7 m12 l0 l1 b21 w'.heap.size b26 b27 b29 b8 := by
 have M := h.mv (below_alloc (Below.refl _ _) (.map #[] 0)) 5
 exact ⟨M.bel, M.lo, fun q => M.f1 ((up_ne (by decide)).symm.trans q), fun q => M.f2 ((up_ne (by decide)).symm.trans q), fun _ _ => World.ownsMap_made w' _ _ _, fun _ => ⟨upd_ge (Nat.le_refl _), h.bel.size, by simp⟩, fun q => absurd (((up_ne (by decide)).symm.trans q).symm.trans hb6) (by decide), fun q => absurd (((up_ne (by decide)).symm.trans q).symm.trans hb7) (by decide), fun q => M.f8 ((up_ne (by decide)).symm.trans q), fun q => M.f9 ((up_ne (by decide)).symm.trans q), fun q => M.f11 ((up_ne (by decide)).symm.trans q), fun q => absurd (((up_ne (by decide)).symm.trans q).symm.trans hb12) (by decide), fun q => M.f13 ((up_ne (by decide)).symm.trans q)⟩
theorem L3.add6 (h : L3 w2 w' b c v0 v1 m7 m12 l0 l1 b21 b22 b26 b27 b29 b8) (hb3 : b 3 = true) (hg : w'.grownBy w1 (some b22)) (hO : OM w1 b22 1 (D1 l1)) : L3 w2 w1 (up b 6) c v0 v1 m7 m12 l0 l1 b21 b22 b26 b27 b29 b8 := by
 have q3 := h.f3c hb3
 have hk : ∀ k, k < w'.heap.size → k ≠ b22 → w1.heap[k]? = w'.heap[k]? := fun k hk hne => hg.block k hk (fun e => hne (Option.some.inj e))
 have hbel : Below w2.heap.size w2 w1 := ⟨hg.os.trans h.bel.os, hg.tape.trans h.bel.tape, hg.output.trans h.bel.output, Nat.le_trans h.bel.size hg.size, fun k hk1 => (hk k (Nat.lt_of_lt_of_le hk1 h.bel.size) (by omega)).trans (h.bel.block k hk1)⟩
 have M : L3 w2 w1 (fun j => if j = 6 then false else if j = 3 then false else b j) c v0 v1 m7 m12 l0 l1 b21 b22 b26 b27 b29 b8 :=
  ⟨hbel, h.lo, fun q => Kd.FK_step (h.f1 q) (fun k hk1 hlt => hk k hlt (fun e => absurd (hk1.symm.trans ((congrArg c e).trans q3.1)) (by decide))), fun q => ⟨N2_blk (h.f2 q).1 q3.1 (by decide) (by decide) hk, (h.f2 q).2⟩, fun q => absurd q (by simp), fun q => absurd q (by simp), fun q => absurd q (by simp), h.f7,
    fun q => R_blk (h.f8 q) q3.1 (by decide) hk, fun q => R_blk (h.f9 q) q3.1 (by decide) hk, fun q => R_blk (h.f11 q) q3.1 (by decide) hk, h.f12, fun q => ⟨(hk b8 (blk_lt (h.f13 q).1) (fun e => absurd ((h.f13 q).2.1.symm.trans ((congrArg c e).trans q3.1)) (by decide))).trans (h.f13 q).1, (h.f13 q).2⟩⟩
 exact ⟨M.bel, M.lo, fun q => M.f1 ((up_ne (by decide)).symm.trans q), fun q => M.f2 ((up_ne (by decide)).symm.trans q), fun _ h' => absurd ((up_self b 6).symm.trans h') (by decide), fun _ => ⟨q3.1, q3.2.1, Nat.lt_of_lt_of_le q3.2.2 hg.size⟩, fun _ => hO, fun q => M.f7 ((up_ne (by decide)).symm.trans q), fun q => M.f8 ((up_ne (by decide)).symm.trans q), fun q => M.f9 ((up_ne (by decide)).symm.trans q), fun q => M.f11 ((up_ne (by decide)).symm.trans q), fun q => M.f12 ((up_ne (by decide)).symm.trans q), fun q => M.f13 ((up_ne (by decide)).symm.trans q)⟩
theorem L3.add7 (h : L3 w2 w' b c v0 v1 m7 m12 l0 l1 b21 b22 b26 b27 b29 b8) : L3 w2 w' (up b 7) c v0 v1 (.map (some b22)) m12 l0 l1 b21 b22 b26 b27 b29 b8 :=
 ⟨h.bel, h.lo, fun q => h.f1 ((up_ne (by decide)).symm.trans q), fun q => h.f2 ((up_ne (by decide)).symm.trans q), fun q q2 => h.f3 ((up_ne (by decide)).symm.trans q) ((up_ne (by decide)).symm.trans q2), fun q => h.f3c ((up_ne (by decide)).symm.trans q), fun q => h.f6 ((up_ne (by decide)).symm.trans q), fun _ => rfl, fun q => h.f8 ((up_ne (by decide)).symm.trans q), fun q => h.f9 ((up_ne (by decide)).symm.trans q), fun q => h.f11 ((up_ne (by decide)).symm.trans q), fun q => h.f12 ((up_ne (by decide)).symm.trans q), fun q => h.f13 ((up_ne (by decide)).symm.trans q)⟩
theorem L3.add8 (h : L3 w2 w' b c v0 v1 m7 m12 l0 l1 b21 b22 b26 b27 b29 b8) (hb12 : b 12 = false) : L3 w2 (w'.alloc (.cells #[.int .i64 0] 3)) (up b 8) (upd c w'.heap.size 4) v0 v1 m7 m12 l0 l1 b21 b22 w'.heap.size b27 b29 b8 := by
 have M := h.mv (below_alloc (Below.refl _ _) (.cells #[.int .i64 0] 3)) 4
 exact ⟨M.bel, M.lo, fun q => M.f1 ((up_ne (by decide)).symm.trans q), fun q => M.f2 ((up_ne (by decide)).symm.trans q), fun q q2 => M.f3 ((up_ne (by decide)).symm.trans q) ((up_ne (by decide)).symm.trans q2), fun q => M.f3c ((up_ne (by decide)).symm.trans q), fun q => M.f6 ((up_ne (by decide)).symm.trans q), fun q => M.f7 ((up_ne (by decide)).symm.trans q), fun _ => R_one_int h.bel.size (upd_ge (Nat.le_refl _)), fun q => M.f9 ((up_ne (by decide)).symm.trans q), fun q => M.f11 ((up_ne (by decide)).symm.trans q), fun q => absurd (((up_ne (by decide)).symm.trans q).symm.trans hb12) (by decide), fun q => M.f13 ((up_ne (by decide)).symm.trans q)⟩
theorem L3.add9 (h : L3 w2 w' b c v0 v1 m7 m12 l0 l1 b21 b22 b26 b27 b29 b8) (hb12 : b 12 = false) : L3 w2 (w'.alloc (.cells #[.int .i64 (-1)] 3)) (up b 9) (upd c w'.heap.size 2) v0 v1 m7 m12 l0 l1 b21 b22 b26 w'.heap.size b29 b8 := by
 have M := h.mv (below_alloc (Below.refl _ _) (.cells #[.int .i64 (-1)] 3)) 2
 exact ⟨M.bel, M.lo, fun q => M.f1 ((up_ne (by decide)).symm.trans q), fun q => M.f2 ((up_ne (by decide)).symm.trans q), fun q q2 => M.f3 ((up_ne (by decide)).symm.trans q) ((up_ne (by decide)).symm.trans q2), fun q => M.f3c ((up_ne (by decide)).symm.trans q), fun q => M.f6 ((up_ne (by decide)).symm.trans q), fun q => M.f7 ((up_ne (by decide)).symm.trans q), fun q => M.f8 ((up_ne (by decide)).symm.trans q), fun _ => R_one_int h.bel.size (upd_ge (Nat.le_refl _)), fun q => M.f11 ((up_ne (by decide)).symm.trans q), fun q => absurd (((up_ne (by decide)).symm.trans q).symm.trans hb12) (by decide), fun q => M.f13 ((up_ne (by decide)).symm.trans q)⟩
theorem L3.add11 (h : L3 w2 w' b c v0 v1 m7 m12 l0 l1 b21 b22 b26 b27 b29 b8) (hb12 : b 12 = false) : L3 w2 (w'.alloc (.cells #[.int .i64 0, .int .i64 0] 56)) (up b 11) (upd c w'.heap.size 3) v0 v1 m7 m12 l0 l1 b21 b22 b26 b27 w'.heap.size b8 := by
 have M := h.mv (below_alloc (Below.refl _ _) (.cells #[.int .i64 0, .int .i64 0] 56)) 3
 exact ⟨M.bel, M.lo, fun q => M.f1 ((up_ne (by decide)).symm.trans q), fun q => M.f2 ((up_ne (by decide)).symm.trans q), fun q q2 => M.f3 ((up_ne (by decide)).symm.trans q) ((up_ne (by decide)).symm.trans q2), fun q => M.f3c ((up_ne (by decide)).symm.trans q), fun q => M.f6 ((up_ne (by decide)).symm.trans q), fun q => M.f7 ((up_ne (by decide)).symm.trans q), fun q => M.f8 ((up_ne (by decide)).symm.trans q), fun q => M.f9 ((up_ne (by decide)).symm.trans q), fun _ => R_one (cs := [.int .i64 0, .int .i64 0]) h.bel.size (upd_ge (Nat.le_refl _)) (k56_mkM _ _ _ ⟨0, 0⟩), fun q => absurd (((up_ne (by decide)).symm.trans q).symm.trans hb12) (by decide), fun q => M.f13 ((up_ne (by decide)).symm.trans q)⟩
theorem L3.add12 (h : L3 w2 w' b c v0 v1 m7 m12 l0 l1 b21 b22 b26 b27 b29 b8) : L3 w2 w' (up b 12) c v0 v1 m7 (.agg #[.slice (some ⟨b21, 0, none⟩) 1 1, .map (some b22), .slice (some ⟨b26, 0, none⟩) 1 1, .slice (some ⟨b27, 0, none⟩) 1 1, .slice (some ⟨b29, 0, none⟩) 1 1]) l0 l1 b21 b22 b26 b27 b29 b8 :=
 ⟨h.bel, h.lo, fun q => h.f1 ((up_ne (by decide)).symm.trans q), fun q => h.f2 ((up_ne (by decide)).symm.trans q), fun q q2 => h.f3 ((up_ne (by decide)).symm.trans q) ((up_ne (by decide)).symm.trans q2), fun q => h.f3c ((up_ne (by decide)).symm.trans q), fun q => h.f6 ((up_ne (by decide)).symm.trans q), fun q => h.f7 ((up_ne (by decide)).symm.trans q), fun q => h.f8 ((up_ne (by decide)).symm.trans q), fun q => h.f9 ((up_ne (by decide)).symm.trans q), fun q => h.f11 ((up_ne (by decide)).symm.trans q), fun _ => rfl, fun q => h.f13 ((up_ne (by decide)).symm.trans q)⟩
theorem L3.add13 (h : L3 w2 w' b c v0 v1 m7 m12 l0 l1 b21 b22 b26 b27 b29 b8) : L3 w2 (w'.alloc (.cells z97 97)) (up b 13) (upd c w'.heap.size 9) v0 v1 m7 m12 l0 l1 b21 b22 b26 b27 b29 w'.heap.size := by
 have M := h.mv (below_alloc (Below.refl _ _) (.cells z97 97)) 9
 exact ⟨M.bel, M.lo, fun q => M.f1 ((up_ne (by decide)).symm.trans q), fun q => M.f2 ((up_ne (by decide)).symm.trans q), fun q q2 => M.f3 ((up_ne (by decide)).symm.trans q) ((up_ne (by decide)).symm.trans q2), fun q => M.f3c ((up_ne (by decide)).symm.trans q), fun q => M.f6 ((up_ne (by decide)).symm.trans q), fun q => M.f7 ((up_ne (by decide)).symm.trans q), fun q => M.f8 ((up_ne (by decide)).symm.trans q), fun q => M.f9 ((up_ne (by decide)).symm.trans q), fun q => M.f11 ((up_ne (by decide)).symm.trans q), fun q => M.f12 ((up_ne (by decide)).symm.trans q), fun _ => ⟨blk_new w' _, upd_ge (Nat.le_refl _), h.bel.size⟩⟩
/-- All is made. -/
theorem L3.fin (h : L3 w2 w' b c v0 v1 m7 m12 l0 l1 b21 b22 b26 b27 b29 b8) (h2 : b 2 = true) (h3 : b 3 = true) (h6 : b 6 = true) (h8 : b 8 = true) (h9 : b 9 = true) (h11 : b 11 = true) (h13 : b 13 = true) :
 MemC w2 w' b8 b22 c z97 (.slice (some ⟨b21, 0, none⟩) 1 1) (.slice (some ⟨b26, 0, none⟩) 1 1) (.slice (some ⟨b27, 0, none⟩) 1 1) (.slice (some ⟨b29, 0, none⟩) 1 1) (.slice none 0 0) [⟨l0, l1⟩] [0] [-1] [⟨0, 0⟩] [] 1 (D1 l1) :=
 ⟨(h.f13 h13).1, (h.f13 h13).2.1, (h.f13 h13).2.2, (h.f3c h3).1, (h.f3c h3).2.1, h.f6 h6, fun k hk => by
   have e : b21 = k := by simpa [Value.ownBlock] using hk
   exact e ▸ (h.f2 h2).2, (h.f2 h2).1, h.f8 h8, h.f9 h9, h.f11 h11, Kd.R_nil _ _ _ _ _, h.bel, h.lo⟩
/-- What the literal leaves. -/
def Made3 (w2 w' : World) (b8 : Nat) (l0 l1 : List Int) : Prop := ∃ c b va vd vf vm, MemC w2 w' b8 b c #[va, .map (some b), vd, vf, vm] va vd vf vm (.slice none 0 0) [⟨l0, l1⟩] [0] [-1] [⟨0, 0⟩] [] 1 (D1 l1)
theorem MemC.made {va vd vf vm : Value} {b22 : Nat} (M : MemC w2 w' b8 b22 c z97 va vd vf vm (.slice none 0 0) [⟨l0, l1⟩] [0] [-1] [⟨0, 0⟩] [] 1 (D1 l1)) :
 Made3 w2 (((((w'.setCell ⟨b8, 0, none⟩ va).setCell ⟨b8, 1, none⟩ (.map (some b22))).setCell ⟨b8, 2, none⟩ vd).setCell ⟨b8, 3, none⟩ vf).setCell ⟨b8, 4, none⟩ vm) b8 l0 l1 :=
 ⟨c, b22, va, vd, vf, vm, by simpa [z97] using ((((M.setg 0 va).setg 1 (.map (some b22))).setg 2 vd).setg 3 vf).setg 4 vm⟩
/-- Nothing is made yet. -/
theorem L3.start (hb : Below w2.heap.size w2 w') : L3 w2 w' (fun _ => false) (fun k => if k < w2.heap.size then 0 else 6) (.bool false) (.bool false) (.bool false) (.bool false) l0 l1 0 0 0 0 0 0 :=
 ⟨hb, fun k hk => if_pos hk, fun h => absurd h (by decide), fun h => absurd h (by decide), fun h => absurd h (by decide), fun h => absurd h (by decide), fun h => absurd h (by decide), fun h => absurd h (by decide), fun h => absurd h (by decide), fun h => absurd h (by decide), fun h => absurd h (by decide), fun h => absurd h (by decide), fun h => absurd h (by decide)⟩
end
end Go.Proofs.Ytjllbahhkeglfaa.P
namespace Go.Proofs.Ytjllbahhkeglfaa.P
open Go.RowKit Go.Proofs.YtjllbahhkeglfaaW.PrintWords Go.Proofs.YtjllbahhkeglfaaW.PrintLast Go.Proofs.YtjllbahhkeglfaaW.PrintMore
set_option linter.unusedVariables false
set_option linter.unusedSimpArgs false
def cM (m : S56) : List Value := [.int .i64 m.f0, .int .i64 m.f1]
/-- The search's memory at a round. -/
def HeldI (w0 wr : World) (g : Nat) (s : List Int) (r : Srch) (vl : Value) (ls : List S56) : Prop :=
 ∃ c b va vd vf vm n D, MemC w0 wr g b c #[va, .map (some b), vd, vf, vm] va vd vf vm vl r.all r.far r.fr r.ms ls n D ∧ KInv D s r.all ∧ n ≤ r.all.length
/-- Beside it the move and the vessels behind it (ka: what the map knows). -/
def MidI (w0 wx : World) (g b9 b10 : Nat) (s : List Int) (ka all : List S33) (far fr : List Int) (ms : List S56) (vl : Value) (ls : List S56) (m : S56) (nx : List Int) (A4 : Option Addr) (c4 : Nat) (A5 : Option Addr) (c5 : Nat) : Prop :=
 ∃ c b va vd vf vm n D, MemC w0 wx g b c #[va, .map (some b), vd, vf, vm] va vd vf vm vl all far fr ms ls n D ∧ KInv D s ka ∧ n ≤ ka.length ∧ c b9 = 8 ∧ c b10 = 8 ∧ wx.heap[b9]? = some (.cells #[.int .i64 m.f0, .int .i64 m.f1] 56 (0, 0)) ∧
  wx.heap[b10]? = some (.cells #[.slice A4 s.length c4, .slice A5 nx.length c5] 33 (0, 0)) ∧ Kd.FK k33 wx (fun k => c k = 6) ⟨s, nx⟩ [.slice A4 s.length c4, .slice A5 nx.length c5]
/-- Beside it the move alone. -/
def MidJ (w0 wx : World) (g b9 : Nat) (s : List Int) (ka all : List S33) (far fr : List Int) (ms : List S56) (vl : Value) (ls : List S56) (m : S56) : Prop :=
 ∃ c b va vd vf vm n D, MemC w0 wx g b c #[va, .map (some b), vd, vf, vm] va vd vf vm vl all far fr ms ls n D ∧ KInv D s ka ∧ n ≤ ka.length ∧ c b9 = 8 ∧ wx.heap[b9]? = some (.cells #[.int .i64 m.f0, .int .i64 m.f1] 56 (0, 0))
section
variable {w0 w w' w1 w3 W9 w2 wx : World} {g bm b9 b10 : Nat} {c c' : Nat → Nat} {cs : Array Value} {va vd vf vm vl va0 vd0 vf0 vm0 x0 x2 x3 x4 : Value} {all all0 ka : List S33} {far far0 fr fr0 : List Int} {ms ms0 ls : List S56} {n : Nat} {D : DataW Nat} {m : S56} {s nx : List Int} {A4 A5 : Option Addr} {c4 c5 : Nat} {b : Nat → Bool} {b82 b92 : Nat} {f i : Int}
theorem MemC.lt (M : MemC w0 w g bm c cs va vd vf vm vl all far fr ms ls n D) : g < w.heap.size := blk_lt M.blk
/-- Nothing that stood has turned; the new is coloured anew. -/
theorem MemC.move (M : MemC w0 w g bm c cs va vd vf vm vl all far fr ms ls n D) (hc : ∀ k, k < w.heap.size → c' k = c k) (hk : ∀ k, k < w.heap.size → w1.heap[k]? = w.heap[k]?) (hb : Below w0.heap.size w0 w1) : MemC w0 w1 g bm c' cs va vd vf vm vl all far fr ms ls n D :=
 ⟨(hk g (blk_lt M.blk)).trans M.blk, (hc g (blk_lt M.blk)).trans M.cg, M.gb, (hc bm M.mp.lt).trans M.cb, M.bb, M.mp.blk (hk bm M.mp.lt), fun k hk1 => (hc k (Kd.N_lt M.na k hk1)).trans (M.a1 k hk1), N2_move (b := g) M.na hc hk, R_move' M.nd hc hk, R_move' M.nf hc hk, R_move' M.nm hc hk, R_move' M.nl hc hk, hb, fun k hk1 => (hc k (Nat.lt_of_lt_of_le hk1 M.bel.size)).trans (M.lo k hk1)⟩
theorem HeldI.open (h : HeldI w0 w g s ⟨all, fr, ms, far, []⟩ vl ls) : ∃ c b va vd vf vm n D, MemC w0 w g b c #[va, .map (some b), vd, vf, vm] va vd vf vm vl all far fr ms ls n D ∧ KInv D s all ∧ n ≤ all.length := h
theorem MidI.below (h : MidI w0 wx g b9 b10 s ka all far fr ms vl ls m nx A4 c4 A5 c5) (hb : Below wx.heap.size wx w1) : MidI w0 w1 g b9 b10 s ka all far fr ms vl ls m nx A4 c4 A5 c5 := by
 obtain ⟨c, b, va, vd, vf, vm, n, D, M, K, hn, h9, h10, k9, k10, hF⟩ := h
 exact ⟨c, b, va, vd, vf, vm, n, D, M.below hb, K, hn, h9, h10, blk_below k9 hb, blk_below k10 hb, Kd.FK_below hF hb⟩
theorem MidI.bel (h : MidI w0 wx g b9 b10 s ka all far fr ms vl ls m nx A4 c4 A5 c5) : Below w0.heap.size w0 wx := by
 obtain ⟨c, b, va, vd, vf, vm, n, D, M, _⟩ := h
 exact M.bel
theorem MidI.held {r : Srch} (h : MidI w0 wx g b9 b10 s r.all r.all r.far r.fr r.ms vl ls m nx A4 c4 A5 c5) : HeldI w0 wx g s r vl ls := by
 obtain ⟨c, b, va, vd, vf, vm, n, D, M, K, hn, _⟩ := h
 exact ⟨c, b, va, vd, vf, vm, n, D, M, K, hn⟩
theorem midI_of {ok4 ok5 : Nat → Prop} (M : MemC w0 W9 g bm c #[va, .map (some bm), vd, vf, vm] va vd vf vm vl all far fr ms ls n D) (K : KInv D s ka) (hn : n ≤ ka.length) (h9 : c b9 = 8) (k9 : W9.heap[b9]? = some (.cells #[.int .i64 m.f0, .int .i64 m.f1] 56 (0, 0))) (hb : Below W9.heap.size W9 w2)
 (hv4 : Kd.R (Kd.int .i64) 3 w2 W9.heap.size ok4 (.slice A4 s.length c4) s) (hv5 : Kd.R (Kd.int .i64) 3 w2 W9.heap.size ok5 (.slice A5 nx.length c5) nx)
 (hge : W9.heap.size ≤ b10) (hk : ∀ k, k < w2.heap.size → k ≠ b10 → w3.heap[k]? = w2.heap[k]?) (h10 : w3.heap[b10]? = some (.cells #[.slice A4 s.length c4, .slice A5 nx.length c5] 33 (0, 0)))
 (n4 : ∀ k, (Value.slice A4 s.length c4).ownBlock = some k → k ≠ b10) (n5 : ∀ k, (Value.slice A5 nx.length c5).ownBlock = some k → k ≠ b10) (hbel : Below w0.heap.size w0 w3) :
 MidI w0 w3 g b9 b10 s ka all far fr ms vl ls m nx A4 c4 A5 c5 := by
 have hc : ∀ k, k < W9.heap.size → (fun k => if k = b10 then 8 else upd c W9.heap.size 6 k) k = c k := fun k hlt => by
  show (if k = b10 then 8 else upd c W9.heap.size 6 k) = c k
  rw [if_neg (by omega), upd_lt hlt]
 have hmv : ∀ k, k < W9.heap.size → w3.heap[k]? = W9.heap[k]? := fun k hlt => (hk k (Nat.lt_of_lt_of_le hlt hb.size) (by omega)).trans (hb.block k hlt)
 have hlt9 := blk_lt k9
 refine ⟨fun k => if k = b10 then 8 else upd c W9.heap.size 6 k, bm, va, vd, vf, vm, n, D, M.move hc hmv hbel, K, hn, (hc b9 hlt9).trans h9, if_pos rfl, (hmv b9 hlt9).trans k9, h10, ?_⟩
 have e4 : s.length ≤ c4 := by obtain ⟨A, cc, e, hl, _⟩ := Kd.R_reads hv4; simp only [Value.slice.injEq] at e; omega
 have e5 : nx.length ≤ c5 := by obtain ⟨A, cc, e, hl, _⟩ := Kd.R_reads hv5; simp only [Value.slice.injEq] at e; omega
 have f4 : Kd.F (Kd.int .i64) w3 (fun k => (if k = b10 then 8 else upd c W9.heap.size 6 k) = 6) A4 s.length s := by
  have h1 := Kd.F_bound (F_of_R (Kd.R_tight (d := Kd.int .i64) rfl (Kd.R_bound hv4)))
  refine Kd.F_mono (ok := fun k => (some k = (Value.slice A4 s.length c4).ownBlock ∧ k < w2.heap.size)) (Kd.F_step h1 (fun k hk1 hlt => hk k hlt (n4 k hk1.1.symm))) (fun k hk1 => ?_)
  have hb4 := Kd.R_base hv4 k hk1.1.symm
  rw [if_neg (n4 k hk1.1.symm), upd_ge hb4]
 have f5 : Kd.F (Kd.int .i64) w3 (fun k => (if k = b10 then 8 else upd c W9.heap.size 6 k) = 6) A5 nx.length nx := by
  have h1 := Kd.F_bound (F_of_R (Kd.R_tight (d := Kd.int .i64) rfl (Kd.R_bound hv5)))
  refine Kd.F_mono (ok := fun k => (some k = (Value.slice A5 nx.length c5).ownBlock ∧ k < w2.heap.size)) (Kd.F_step h1 (fun k hk1 hlt => hk k hlt (n5 k hk1.1.symm))) (fun k hk1 => ?_)
  have hb5 := Kd.R_base hv5 k hk1.1.symm
  rw [if_neg (n5 k hk1.1.symm), upd_ge hb5]
 exact k33_mkF w3 _ ⟨s, nx⟩ e4 f4 e5 f5
theorem cell_grown {b : Nat} (hg : w.grownBy w1 (some b)) {a : Addr} {v : Value} (h : w.cell? a = some v) (hne : a.block ≠ b) : w1.cell? a = some v := by
 rw [World.cell?_of_block (hg.block a.block (World.block_lt_of_cell? w _ h) (fun e => hne (Option.some.inj e)))]
 exact h
/-- The map takes the new vessels. -/
theorem MidI.mapd (h : MidI w0 wx g b9 b10 s ka all far fr ms vl ls m nx A4 c4 A5 c5) : ∃ bm n D, (∃ va vd vf vm, wx.heap[g]? = some (.cells #[va, .map (some bm), vd, vf, vm] 97 (0, 0)) ∧ ∃ Aa ca, va = .slice Aa all.length ca) ∧ OM wx bm n D ∧ KInv D s ka ∧ n ≤ ka.length ∧
 wx.heap[b10]? = some (.cells #[.slice A4 s.length c4, .slice A5 nx.length c5] 33 (0, 0)) ∧ (∃ cc, s.length ≤ c4 ∧ Kd.C (Kd.int .i64) wx A4 s.length s ∧ nx.length ≤ c5 ∧ Kd.C (Kd.int .i64) wx A5 nx.length nx ∧ cc = 0) ∧ (g ≠ bm ∧ b10 ≠ bm) ∧
 ∀ (w1 : World) (ka' : List S33) (n' : Nat) (D' : DataW Nat), OM w1 bm n' D' → wx.grownBy w1 (some bm) → KInv D' s ka' → n' ≤ ka'.length → MidI w0 w1 g b9 b10 s ka' all far fr ms vl ls m nx A4 c4 A5 c5 := by
 obtain ⟨c, bm, va, vd, vf, vm, n, D, M, K, hn, h9, h10, k9, k10, hF⟩ := h
 obtain ⟨A0, c0, A1, c1, he, hl0, hC0, hl1, hC1⟩ := k33_open (Kd.FK_now hF)
 simp only [List.cons.injEq, Value.slice.injEq, true_and, and_true] at he
 obtain ⟨⟨rfl, rfl⟩, ⟨rfl, rfl⟩⟩ := he
 refine ⟨bm, n, D, ⟨va, vd, vf, vm, M.blk, Kd.N_slice M.na⟩, M.mp, K, hn, k10, ⟨0, hl0, hC0, hl1, hC1, rfl⟩, ⟨fun e => absurd (M.cg.symm.trans ((congrArg c e).trans M.cb)) (by decide), fun e => absurd (h10.symm.trans ((congrArg c e).trans M.cb)) (by decide)⟩, ?_⟩
 intro w1 ka' n' D' hO hg K' hn'
 have hk : ∀ k, k < wx.heap.size → k ≠ bm → w1.heap[k]? = wx.heap[k]? := fun k hk hne => hg.block k hk (fun e => hne (Option.some.inj e))
 have hbel : Below w0.heap.size w0 w1 := ⟨hg.os.trans M.bel.os, hg.tape.trans M.bel.tape, hg.output.trans M.bel.output, Nat.le_trans M.bel.size hg.size, fun k hk1 => (hk k (Nat.lt_of_lt_of_le hk1 M.bel.size) (by have := M.bb; omega)).trans (M.bel.block k hk1)⟩
 refine ⟨c, bm, va, vd, vf, vm, n', D', M.mapg hO hg hbel, K', hn', h9, h10, (hk b9 (blk_lt k9) (fun e => absurd (h9.symm.trans ((congrArg c e).trans M.cb)) (by decide))).trans k9, (hk b10 (blk_lt k10) (fun e => absurd (h10.symm.trans ((congrArg c e).trans M.cb)) (by decide))).trans k10, ?_⟩
 exact Kd.FK_step hF (fun k hk1 hlt => hk k hlt (fun e => absurd (hk1.symm.trans ((congrArg c e).trans M.cb)) (by decide)))
end
structure S16 (w0 w' : World) (b : Nat → Bool) (g bm b9 b10 : Nat) (c : Nat → Nat) (va0 vd0 va vd x0 x2 vf vm vl : Value) (all0 : List S33) (far0 : List Int) (all : List S33) (far fr : List Int) (ms ls : List S56) (n : Nat) (D : DataW Nat) (m : S56) (s nx : List Int) (A4 : Option Addr) (c4 : Nat) (A5 : Option Addr) (c5 : Nat) (b82 b92 : Nat) (f : Int) : Prop where
 mem : MemC w0 w' g bm c #[x0, .map (some bm), x2, vf, vm] va vd vf vm vl all far fr ms ls n D
 h9 : c b9 = 8
 k9 : w'.heap[b9]? = some (.cells #[.int .i64 m.f0, .int .i64 m.f1] 56 (0, 0))
 h10 : c b10 = 8
 k10 : w'.heap[b10]? = some (.cells #[.slice A4 s.length c4, .slice A5 nx.length c5] 33 (0, 0))
 a4 : b 4 = false → va = va0 ∧ all = all0
 fk : b 4 = false → Kd.FK k33 w' (fun k => c k = 6) ⟨s, nx⟩ [.slice A4 s.length c4, .slice A5 nx.length c5]
 a4t : b 4 = true → all = all0 ++ [⟨s, nx⟩]
 a14 : b 14 = false → vd = vd0 ∧ far = far0
 a14t : b 14 = true → far = far0 ++ [f + 1]
 s16 : b 16 = false → x0 = va0
 s16t : b 16 = true → x0 = va
 s18 : b 18 = false → x2 = vd0
 s18t : b 18 = true → x2 = vd
 x3 : b 3 = true → b 4 = false → w'.heap[b82]? = some (.cells #[.slice A4 s.length c4, .slice A5 nx.length c5] 33 (0, 0)) ∧ c b82 = 1 ∧ some b82 ≠ va0.ownBlock
 x13 : b 13 = true → b 14 = false → w'.heap[b92]? = some (.cells #[.int .i64 (f + 1)] 3 (0, 0)) ∧ c b92 = 10
section
variable {w0 w w' w1 w3 W9 w2 wx : World} {g bm b9 b10 : Nat} {c c' : Nat → Nat} {cs : Array Value} {va vd vf vm vl va0 vd0 vf0 vm0 x0 x2 x3 x4 : Value} {all all0 ka : List S33} {far far0 fr fr0 : List Int} {ms ms0 ls : List S56} {n : Nat} {D : DataW Nat} {m : S56} {s nx : List Int} {A4 A5 : Option Addr} {c4 c5 : Nat} {b : Nat → Bool} {b82 b92 : Nat} {f i : Int}
theorem S16.mv (h : S16 w0 w' b g bm b9 b10 c va0 vd0 va vd x0 x2 vf vm vl all0 far0 all far fr ms ls n D m s nx A4 c4 A5 c5 b82 b92 f) (hb : Below w'.heap.size w' w1) (j : Nat) : S16 w0 w1 b g bm b9 b10 (upd c w'.heap.size j) va0 vd0 va vd x0 x2 vf vm vl all0 far0 all far fr ms ls n D m s nx A4 c4 A5 c5 b82 b92 f :=
 ⟨(h.mem.upd j).below hb, (upd_lt (blk_lt h.k9)).trans h.h9, blk_below h.k9 hb, (upd_lt (blk_lt h.k10)).trans h.h10, blk_below h.k10 hb, h.a4, fun q => Kd.FK_below (FK_col (h.fk q) (fun k hk => upd_lt hk)) hb, h.a4t, h.a14, h.a14t, h.s16, h.s16t, h.s18, h.s18t, fun q q' => ⟨blk_below (h.x3 q q').1 hb, (upd_lt (blk_lt (h.x3 q q').1)).trans (h.x3 q q').2.1, (h.x3 q q').2.2⟩, fun q q' => ⟨blk_below (h.x13 q q').1 hb, (upd_lt (blk_lt (h.x13 q q').1)).trans (h.x13 q q').2⟩⟩
theorem S16.nop0 (h : S16 w0 w' b g bm b9 b10 c va0 vd0 va vd x0 x2 vf vm vl all0 far0 all far fr ms ls n D m s nx A4 c4 A5 c5 b82 b92 f) : S16 w0 w' (up b 0) g bm b9 b10 c va0 vd0 va vd x0 x2 vf vm vl all0 far0 all far fr ms ls n D m s nx A4 c4 A5 c5 b82 b92 f :=
 ⟨h.mem, h.h9, h.k9, h.h10, h.k10, fun q0 => h.a4 ((up_ne (by decide)).symm.trans q0), fun q0 => h.fk ((up_ne (by decide)).symm.trans q0), fun q0 => h.a4t ((up_ne (by decide)).symm.trans q0), fun q0 => h.a14 ((up_ne (by decide)).symm.trans q0), fun q0 => h.a14t ((up_ne (by decide)).symm.trans q0), fun q0 => h.s16 ((up_ne (by decide)).symm.trans q0), fun q0 => h.s16t ((up_ne (by decide)).symm.trans q0), fun q0 => h.s18 ((up_ne (by decide)).symm.trans q0), fun q0 => h.s18t ((up_ne (by decide)).symm.trans q0), fun q0 q1 => h.x3 ((up_ne (by decide)).symm.trans q0) ((up_ne (by decide)).symm.trans q1), fun q0 q1 => h.x13 ((up_ne (by decide)).symm.trans q0) ((up_ne (by decide)).symm.trans q1)⟩
theorem S16.nop1 (h : S16 w0 w' b g bm b9 b10 c va0 vd0 va vd x0 x2 vf vm vl all0 far0 all far fr ms ls n D m s nx A4 c4 A5 c5 b82 b92 f) : S16 w0 w' (up b 1) g bm b9 b10 c va0 vd0 va vd x0 x2 vf vm vl all0 far0 all far fr ms ls n D m s nx A4 c4 A5 c5 b82 b92 f :=
 ⟨h.mem, h.h9, h.k9, h.h10, h.k10, fun q0 => h.a4 ((up_ne (by decide)).symm.trans q0), fun q0 => h.fk ((up_ne (by decide)).symm.trans q0), fun q0 => h.a4t ((up_ne (by decide)).symm.trans q0), fun q0 => h.a14 ((up_ne (by decide)).symm.trans q0), fun q0 => h.a14t ((up_ne (by decide)).symm.trans q0), fun q0 => h.s16 ((up_ne (by decide)).symm.trans q0), fun q0 => h.s16t ((up_ne (by decide)).symm.trans q0), fun q0 => h.s18 ((up_ne (by decide)).symm.trans q0), fun q0 => h.s18t ((up_ne (by decide)).symm.trans q0), fun q0 q1 => h.x3 ((up_ne (by decide)).symm.trans q0) ((up_ne (by decide)).symm.trans q1), fun q0 q1 => h.x13 ((up_ne (by decide)).symm.trans q0) ((up_ne (by decide)).symm.trans q1)⟩
theorem S16.nop2 (h : S16 w0 w' b g bm b9 b10 c va0 vd0 va vd x0 x2 vf vm vl all0 far0 all far fr ms ls n D m s nx A4 c4 A5 c5 b82 b92 f) : S16 w0 w' (up b 2) g bm b9 b10 c va0 vd0 va vd x0 x2 vf vm vl all0 far0 all far fr ms ls n D m s nx A4 c4 A5 c5 b82 b92 f :=
 ⟨h.mem, h.h9, h.k9, h.h10, h.k10, fun q0 => h.a4 ((up_ne (by decide)).symm.trans q0), fun q0 => h.fk ((up_ne (by decide)).symm.trans q0), fun q0 => h.a4t ((up_ne (by decide)).symm.trans q0), fun q0 => h.a14 ((up_ne (by decide)).symm.trans q0), fun q0 => h.a14t ((up_ne (by decide)).symm.trans q0), fun q0 => h.s16 ((up_ne (by decide)).symm.trans q0), fun q0 => h.s16t ((up_ne (by decide)).symm.trans q0), fun q0 => h.s18 ((up_ne (by decide)).symm.trans q0), fun q0 => h.s18t ((up_ne (by decide)).symm.trans q0), fun q0 q1 => h.x3 ((up_ne (by decide)).symm.trans q0) ((up_ne (by decide)).symm.trans q1), fun q0 q1 => h.x13 ((up_ne (by decide)).symm.trans q0) ((up_ne (by decide)).symm.trans q1)⟩
theorem S16.nop5 (h : S16 w0 w' b g bm b9 b10 c va0 vd0 va vd x0 x2 vf vm vl all0 far0 all far fr ms ls n D m s nx A4 c4 A5 c5 b82 b92 f) : S16 w0 w' (up b 5) g bm b9 b10 c va0 vd0 va vd x0 x2 vf vm vl all0 far0 all far fr ms ls n D m s nx A4 c4 A5 c5 b82 b92 f :=
 ⟨h.mem, h.h9, h.k9, h.h10, h.k10, fun q0 => h.a4 ((up_ne (by decide)).symm.trans q0), fun q0 => h.fk ((up_ne (by decide)).symm.trans q0), fun q0 => h.a4t ((up_ne (by decide)).symm.trans q0), fun q0 => h.a14 ((up_ne (by decide)).symm.trans q0), fun q0 => h.a14t ((up_ne (by decide)).symm.trans q0), fun q0 => h.s16 ((up_ne (by decide)).symm.trans q0), fun q0 => h.s16t ((up_ne (by decide)).symm.trans q0), fun q0 => h.s18 ((up_ne (by decide)).symm.trans q0), fun q0 => h.s18t ((up_ne (by decide)).symm.trans q0), fun q0 q1 => h.x3 ((up_ne (by decide)).symm.trans q0) ((up_ne (by decide)).symm.trans q1), fun q0 q1 => h.x13 ((up_ne (by decide)).symm.trans q0) ((up_ne (by decide)).symm.trans q1)⟩
theorem S16.nop6 (h : S16 w0 w' b g bm b9 b10 c va0 vd0 va vd x0 x2 vf vm vl all0 far0 all far fr ms ls n D m s nx A4 c4 A5 c5 b82 b92 f) : S16 w0 w' (up b 6) g bm b9 b10 c va0 vd0 va vd x0 x2 vf vm vl all0 far0 all far fr ms ls n D m s nx A4 c4 A5 c5 b82 b92 f :=
 ⟨h.mem, h.h9, h.k9, h.h10, h.k10, fun q0 => h.a4 ((up_ne (by decide)).symm.trans q0), fun q0 => h.fk ((up_ne (by decide)).symm.trans q0), fun q0 => h.a4t ((up_ne (by decide)).symm.trans q0), fun q0 => h.a14 ((up_ne (by decide)).symm.trans q0), fun q0 => h.a14t ((up_ne (by decide)).symm.trans q0), fun q0 => h.s16 ((up_ne (by decide)).symm.trans q0), fun q0 => h.s16t ((up_ne (by decide)).symm.trans q0), fun q0 => h.s18 ((up_ne (by decide)).symm.trans q0), fun q0 => h.s18t ((up_ne (by decide)).symm.trans q0), fun q0 q1 => h.x3 ((up_ne (by decide)).symm.trans q0) ((up_ne (by decide)).symm.trans q1), fun q0 q1 => h.x13 ((up_ne (by decide)).symm.trans q0) ((up_ne (by decide)).symm.trans q1)⟩
theorem S16.nop7 (h : S16 w0 w' b g bm b9 b10 c va0 vd0 va vd x0 x2 vf vm vl all0 far0 all far fr ms ls n D m s nx A4 c4 A5 c5 b82 b92 f) : S16 w0 w' (up b 7) g bm b9 b10 c va0 vd0 va vd x0 x2 vf vm vl all0 far0 all far fr ms ls n D m s nx A4 c4 A5 c5 b82 b92 f :=
 ⟨h.mem, h.h9, h.k9, h.h10, h.k10, fun q0 => h.a4 ((up_ne (by decide)).symm.trans q0), fun q0 => h.fk ((up_ne (by decide)).symm.trans q0), fun q0 => h.a4t ((up_ne (by decide)).symm.trans q0), fun q0 => h.a14 ((up_ne (by decide)).symm.trans q0), fun q0 => h.a14t ((up_ne (by decide)).symm.trans q0), fun q0 => h.s16 ((up_ne (by decide)).symm.trans q0), fun q0 => h.s16t ((up_ne (by decide)).symm.trans q0), fun q0 => h.s18 ((up_ne (by decide)).symm.trans q0), fun q0 => h.s18t ((up_ne (by decide)).symm.trans q0), fun q0 q1 => h.x3 ((up_ne (by decide)).symm.trans q0) ((up_ne (by decide)).symm.trans q1), fun q0 q1 => h.x13 ((up_ne (by decide)).symm.trans q0) ((up_ne (by decide)).symm.trans q1)⟩
theorem S16.nop8 (h : S16 w0 w' b g bm b9 b10 c va0 vd0 va vd x0 x2 vf vm vl all0 far0 all far fr ms ls n D m s nx A4 c4 A5 c5 b82 b92 f) : S16 w0 w' (up b 8) g bm b9 b10 c va0 vd0 va vd x0 x2 vf vm vl all0 far0 all far fr ms ls n D m s nx A4 c4 A5 c5 b82 b92 f :=
 ⟨h.mem, h.h9, h.k9, h.h10, h.k10, fun q0 => h.a4 ((up_ne (by decide)).symm.trans q0), fun q0 => h.fk ((up_ne (by decide)).symm.trans q0), fun q0 => h.a4t ((up_ne (by decide)).symm.trans q0), fun q0 => h.a14 ((up_ne (by decide)).symm.trans q0), fun q0 => h.a14t ((up_ne (by decide)).symm.trans q0), fun q0 => h.s16 ((up_ne (by decide)).symm.trans q0), fun q0 => h.s16t ((up_ne (by decide)).symm.trans q0), fun q0 => h.s18 ((up_ne (by decide)).symm.trans q0), fun q0 => h.s18t ((up_ne (by decide)).symm.trans q0), fun q0 q1 => h.x3 ((up_ne (by decide)).symm.trans q0) ((up_ne (by decide)).symm.trans q1), fun q0 q1 => h.x13 ((up_ne (by decide)).symm.trans q0) ((up_ne (by decide)).symm.trans q1)⟩
theorem S16.nop9 (h : S16 w0 w' b g bm b9 b10 c va0 vd0 va vd x0 x2 vf vm vl all0 far0 all far fr ms ls n D m s nx A4 c4 A5 c5 b82 b92 f) : S16 w0 w' (up b 9) g bm b9 b10 c va0 vd0 va vd x0 x2 vf vm vl all0 far0 all far fr ms ls n D m s nx A4 c4 A5 c5 b82 b92 f :=
 ⟨h.mem, h.h9, h.k9, h.h10, h.k10, fun q0 => h.a4 ((up_ne (by decide)).symm.trans q0), fun q0 => h.fk ((up_ne (by decide)).symm.trans q0), fun q0 => h.a4t ((up_ne (by decide)).symm.trans q0), fun q0 => h.a14 ((up_ne (by decide)).symm.trans q0), fun q0 => h.a14t ((up_ne (by decide)).symm.trans q0), fun q0 => h.s16 ((up_ne (by decide)).symm.trans q0), fun q0 => h.s16t ((up_ne (by decide)).symm.trans q0), fun q0 => h.s18 ((up_ne (by decide)).symm.trans q0), fun q0 => h.s18t ((up_ne (by decide)).symm.trans q0), fun q0 q1 => h.x3 ((up_ne (by decide)).symm.trans q0) ((up_ne (by decide)).symm.trans q1), fun q0 q1 => h.x13 ((up_ne (by decide)).symm.trans q0) ((up_ne (by decide)).symm.trans q1)⟩
theorem S16.nop10 (h : S16 w0 w' b g bm b9 b10 c va0 vd0 va vd x0 x2 vf vm vl all0 far0 all far fr ms ls n D m s nx A4 c4 A5 c5 b82 b92 f) : S16 w0 w' (up b 10) g bm b9 b10 c va0 vd0 va vd x0 x2 vf vm vl all0 far0 all far fr ms ls n D m s nx A4 c4 A5 c5 b82 b92 f :=
 ⟨h.mem, h.h9, h.k9, h.h10, h.k10, fun q0 => h.a4 ((up_ne (by decide)).symm.trans q0), fun q0 => h.fk ((up_ne (by decide)).symm.trans q0), fun q0 => h.a4t ((up_ne (by decide)).symm.trans q0), fun q0 => h.a14 ((up_ne (by decide)).symm.trans q0), fun q0 => h.a14t ((up_ne (by decide)).symm.trans q0), fun q0 => h.s16 ((up_ne (by decide)).symm.trans q0), fun q0 => h.s16t ((up_ne (by decide)).symm.trans q0), fun q0 => h.s18 ((up_ne (by decide)).symm.trans q0), fun q0 => h.s18t ((up_ne (by decide)).symm.trans q0), fun q0 q1 => h.x3 ((up_ne (by decide)).symm.trans q0) ((up_ne (by decide)).symm.trans q1), fun q0 q1 => h.x13 ((up_ne (by decide)).symm.trans q0) ((up_ne (by decide)).symm.trans q1)⟩
theorem S16.nop11 (h : S16 w0 w' b g bm b9 b10 c va0 vd0 va vd x0 x2 vf vm vl all0 far0 all far fr ms ls n D m s nx A4 c4 A5 c5 b82 b92 f) : S16 w0 w' (up b 11) g bm b9 b10 c va0 vd0 va vd x0 x2 vf vm vl all0 far0 all far fr ms ls n D m s nx A4 c4 A5 c5 b82 b92 f :=
 ⟨h.mem, h.h9, h.k9, h.h10, h.k10, fun q0 => h.a4 ((up_ne (by decide)).symm.trans q0), fun q0 => h.fk ((up_ne (by decide)).symm.trans q0), fun q0 => h.a4t ((up_ne (by decide)).symm.trans q0), fun q0 => h.a14 ((up_ne (by decide)).symm.trans q0), fun q0 => h.a14t ((up_ne (by decide)).symm.trans q0), fun q0 => h.s16 ((up_ne (by decide)).symm.trans q0), fun q0 => h.s16t ((up_ne (by decide)).symm.trans q0), fun q0 => h.s18 ((up_ne (by decide)).symm.trans q0), fun q0 => h.s18t ((up_ne (by decide)).symm.trans q0), fun q0 q1 => h.x3 ((up_ne (by decide)).symm.trans q0) ((up_ne (by decide)).symm.trans q1), fun q0 q1 => h.x13 ((up_ne (by decide)).symm.trans q0) ((up_ne (by decide)).symm.trans q1)⟩
theorem S16.nop12 (h : S16 w0 w' b g bm b9 b10 c va0 vd0 va vd x0 x2 vf vm vl all0 far0 all far fr ms ls n D m s nx A4 c4 A5 c5 b82 b92 f) : S16 w0 w' (up b 12) g bm b9 b10 c va0 vd0 va vd x0 x2 vf vm vl all0 far0 all far fr ms ls n D m s nx A4 c4 A5 c5 b82 b92 f :=
 ⟨h.mem, h.h9, h.k9, h.h10, h.k10, fun q0 => h.a4 ((up_ne (by decide)).symm.trans q0), fun q0 => h.fk ((up_ne (by decide)).symm.trans q0), fun q0 => h.a4t ((up_ne (by decide)).symm.trans q0), fun q0 => h.a14 ((up_ne (by decide)).symm.trans q0), fun q0 => h.a14t ((up_ne (by decide)).symm.trans q0), fun q0 => h.s16 ((up_ne (by decide)).symm.trans q0), fun q0 => h.s16t ((up_ne (by decide)).symm.trans q0), fun q0 => h.s18 ((up_ne (by decide)).symm.trans q0), fun q0 => h.s18t ((up_ne (by decide)).symm.trans q0), fun q0 q1 => h.x3 ((up_ne (by decide)).symm.trans q0) ((up_ne (by decide)).symm.trans q1), fun q0 q1 => h.x13 ((up_ne (by decide)).symm.trans q0) ((up_ne (by decide)).symm.trans q1)⟩
theorem S16.nop15 (h : S16 w0 w' b g bm b9 b10 c va0 vd0 va vd x0 x2 vf vm vl all0 far0 all far fr ms ls n D m s nx A4 c4 A5 c5 b82 b92 f) : S16 w0 w' (up b 15) g bm b9 b10 c va0 vd0 va vd x0 x2 vf vm vl all0 far0 all far fr ms ls n D m s nx A4 c4 A5 c5 b82 b92 f :=
 ⟨h.mem, h.h9, h.k9, h.h10, h.k10, fun q0 => h.a4 ((up_ne (by decide)).symm.trans q0), fun q0 => h.fk ((up_ne (by decide)).symm.trans q0), fun q0 => h.a4t ((up_ne (by decide)).symm.trans q0), fun q0 => h.a14 ((up_ne (by decide)).symm.trans q0), fun q0 => h.a14t ((up_ne (by decide)).symm.trans q0), fun q0 => h.s16 ((up_ne (by decide)).symm.trans q0), fun q0 => h.s16t ((up_ne (by decide)).symm.trans q0), fun q0 => h.s18 ((up_ne (by decide)).symm.trans q0), fun q0 => h.s18t ((up_ne (by decide)).symm.trans q0), fun q0 q1 => h.x3 ((up_ne (by decide)).symm.trans q0) ((up_ne (by decide)).symm.trans q1), fun q0 q1 => h.x13 ((up_ne (by decide)).symm.trans q0) ((up_ne (by decide)).symm.trans q1)⟩
theorem S16.nop17 (h : S16 w0 w' b g bm b9 b10 c va0 vd0 va vd x0 x2 vf vm vl all0 far0 all far fr ms ls n D m s nx A4 c4 A5 c5 b82 b92 f) : S16 w0 w' (up b 17) g bm b9 b10 c va0 vd0 va vd x0 x2 vf vm vl all0 far0 all far fr ms ls n D m s nx A4 c4 A5 c5 b82 b92 f :=
 ⟨h.mem, h.h9, h.k9, h.h10, h.k10, fun q0 => h.a4 ((up_ne (by decide)).symm.trans q0), fun q0 => h.fk ((up_ne (by decide)).symm.trans q0), fun q0 => h.a4t ((up_ne (by decide)).symm.trans q0), fun q0 => h.a14 ((up_ne (by decide)).symm.trans q0), fun q0 => h.a14t ((up_ne (by decide)).symm.trans q0), fun q0 => h.s16 ((up_ne (by decide)).symm.trans q0), fun q0 => h.s16t ((up_ne (by decide)).symm.trans q0), fun q0 => h.s18 ((up_ne (by decide)).symm.trans q0), fun q0 => h.s18t ((up_ne (by decide)).symm.trans q0), fun q0 q1 => h.x3 ((up_ne (by decide)).symm.trans q0) ((up_ne (by decide)).symm.trans q1), fun q0 q1 => h.x13 ((up_ne (by decide)).symm.trans q0) ((up_ne (by decide)).symm.trans q1)⟩
theorem S16.add3 (h : S16 w0 w' b g bm b9 b10 c va0 vd0 va vd x0 x2 vf vm vl all0 far0 all far fr ms ls n D m s nx A4 c4 A5 c5 b82 b92 f) (hb4 : b 4 = false) : S16 w0 (w'.alloc (.cells #[.slice A4 s.length c4, .slice A5 nx.length c5] 33)) (up b 3) g bm b9 b10 (upd c w'.heap.size 1) va0 vd0 va vd x0 x2 vf vm vl all0 far0 all far fr ms ls n D m s nx A4 c4 A5 c5 w'.heap.size b92 f := by
 have M := h.mv (below_alloc (Below.refl _ _) (.cells #[.slice A4 s.length c4, .slice A5 nx.length c5] 33)) 1
 have hne : some w'.heap.size ≠ va0.ownBlock := fun e => by
  have := Kd.N_lt h.mem.na w'.heap.size ((congrArg Value.ownBlock (h.a4 hb4).1).trans e.symm)
  omega
 exact ⟨M.mem, M.h9, M.k9, M.h10, M.k10, fun q0 => M.a4 ((up_ne (by decide)).symm.trans q0), fun q0 => M.fk ((up_ne (by decide)).symm.trans q0), fun q0 => M.a4t ((up_ne (by decide)).symm.trans q0), fun q0 => M.a14 ((up_ne (by decide)).symm.trans q0), fun q0 => M.a14t ((up_ne (by decide)).symm.trans q0), fun q0 => M.s16 ((up_ne (by decide)).symm.trans q0), fun q0 => M.s16t ((up_ne (by decide)).symm.trans q0), fun q0 => M.s18 ((up_ne (by decide)).symm.trans q0), fun q0 => M.s18t ((up_ne (by decide)).symm.trans q0), fun _ _ => ⟨blk_new _ _, upd_ge (Nat.le_refl _), hne⟩, fun q0 q1 => M.x13 ((up_ne (by decide)).symm.trans q0) ((up_ne (by decide)).symm.trans q1)⟩
theorem S16.add13 (h : S16 w0 w' b g bm b9 b10 c va0 vd0 va vd x0 x2 vf vm vl all0 far0 all far fr ms ls n D m s nx A4 c4 A5 c5 b82 b92 f) : S16 w0 (w'.alloc (.cells #[.int .i64 (f + 1)] 3)) (up b 13) g bm b9 b10 (upd c w'.heap.size 10) va0 vd0 va vd x0 x2 vf vm vl all0 far0 all far fr ms ls n D m s nx A4 c4 A5 c5 b82 w'.heap.size f := by
 have M := h.mv (below_alloc (Below.refl _ _) (.cells #[.int .i64 (f + 1)] 3)) 10
 exact ⟨M.mem, M.h9, M.k9, M.h10, M.k10, fun q0 => M.a4 ((up_ne (by decide)).symm.trans q0), fun q0 => M.fk ((up_ne (by decide)).symm.trans q0), fun q0 => M.a4t ((up_ne (by decide)).symm.trans q0), fun q0 => M.a14 ((up_ne (by decide)).symm.trans q0), fun q0 => M.a14t ((up_ne (by decide)).symm.trans q0), fun q0 => M.s16 ((up_ne (by decide)).symm.trans q0), fun q0 => M.s16t ((up_ne (by decide)).symm.trans q0), fun q0 => M.s18 ((up_ne (by decide)).symm.trans q0), fun q0 => M.s18t ((up_ne (by decide)).symm.trans q0), fun q0 q1 => M.x3 ((up_ne (by decide)).symm.trans q0) ((up_ne (by decide)).symm.trans q1), fun _ _ => ⟨blk_new _ _, upd_ge (Nat.le_refl _)⟩⟩
/-- The row of vessels: what an append to it asks, and what it leaves. -/
theorem S16.row4 (h : S16 w0 w' b g bm b9 b10 c va0 vd0 va vd x0 x2 vf vm vl all0 far0 all far fr ms ls n D m s nx A4 c4 A5 c5 b82 b92 f) (hb3 : b 3 = true) (hb4 : b 4 = false) (hb14 : b 14 = false) (hb16 : b 16 = false) : ∃ ok : Nat → Prop, va = va0 ∧ Kd.N k33 33 w' w0.heap.size ok va0 all0 ∧ (∀ k, w'.heap.size ≤ k → ok k) ∧ Kd.FK k33 w' (fun k => ok k ∧ some k ≠ va0.ownBlock) ⟨s, nx⟩ [.slice A4 s.length c4, .slice A5 nx.length c5] ∧ ok b82 ∧ some b82 ≠ va0.ownBlock ∧
 w'.heap[b82]? = some (.cells #[.slice A4 s.length c4, .slice A5 nx.length c5] 33 (0, 0)) ∧ Below w0.heap.size w0 w' ∧
 ∀ (v1 : Value) (w1 : World), Kd.N k33 33 w1 w0.heap.size ok v1 (all0 ++ [⟨s, nx⟩]) → Below w0.heap.size w0 w1 → w'.grownBy w1 va0.ownBlock → (v1.ownBlock = va0.ownBlock ∨ ∃ b, v1.ownBlock = some b ∧ w'.heap.size ≤ b) → S16 w0 w1 (up b 4) g bm b9 b10 (upd c w'.heap.size 1) va0 vd0 v1 vd x0 x2 vf vm vl all0 far0 (all0 ++ [⟨s, nx⟩]) far fr ms ls n D m s nx A4 c4 A5 c5 b82 b92 f := by
 obtain ⟨rfl, rfl⟩ := h.a4 hb4
 have M := h.mem.upd 1
 have hF1 := FK_col (h.fk hb4) (c' := upd c w'.heap.size 1) (fun k hk => upd_lt hk)
 have q3 := h.x3 hb3 hb4
 have h91 : upd c w'.heap.size 1 b9 = 8 := (upd_lt (blk_lt h.k9)).trans h.h9
 have h101 : upd c w'.heap.size 1 b10 = 8 := (upd_lt (blk_lt h.k10)).trans h.h10
 refine ⟨ok1 (upd c w'.heap.size 1), rfl, M.na, fun k hk => .inl (upd_ge hk), Kd.FK_mono hF1 (fun k hk => ⟨.inr hk, fun e => absurd (hk.symm.trans (M.a1 k e.symm)) (by decide)⟩), .inl ((upd_lt (blk_lt q3.1)).trans q3.2.1), q3.2.2, q3.1, M.bel, ?_⟩
 intro v1 w1 hN hb hg hat
 have M2 := M.grow0 v1 _ hg hb hN (fun k hk => by rcases hat with e | ⟨b, e, hb2⟩; exact M.a1 k (e ▸ hk); rw [e] at hk; injection hk with hk; rw [← hk]; exact upd_ge hb2)
 have hnb : ∀ k, upd c w'.heap.size 1 k = 8 → some k ≠ va.ownBlock := fun k hk e => absurd (hk.symm.trans (M.a1 k e.symm)) (by decide)
 exact ⟨M2, h91, blk_grown h.k9 hg (hnb b9 h91), h101, blk_grown h.k10 hg (hnb b10 h101), fun q0 => absurd ((up_self b 4).symm.trans q0) (by decide), fun q0 => absurd ((up_self b 4).symm.trans q0) (by decide), fun _ => rfl, fun q0 => h.a14 ((up_ne (by decide)).symm.trans q0), fun q0 => h.a14t ((up_ne (by decide)).symm.trans q0), fun q0 => h.s16 ((up_ne (by decide)).symm.trans q0), fun q => absurd (((up_ne (by decide)).symm.trans q).symm.trans hb16) (by decide), fun q0 => h.s18 ((up_ne (by decide)).symm.trans q0), fun q0 => h.s18t ((up_ne (by decide)).symm.trans q0), fun q0 q1 => absurd ((up_self b 4).symm.trans q1) (by decide), fun q0 q1 => ⟨blk_grown (h.x13 ((up_ne (by decide)).symm.trans q0) hb14).1 hg (fun e => absurd (((upd_lt (blk_lt (h.x13 ((up_ne (by decide)).symm.trans q0) hb14).1)).trans (h.x13 ((up_ne (by decide)).symm.trans q0) hb14).2).symm.trans (M.a1 b92 e.symm)) (by decide)), (upd_lt (blk_lt (h.x13 ((up_ne (by decide)).symm.trans q0) hb14).1)).trans (h.x13 ((up_ne (by decide)).symm.trans q0) hb14).2⟩⟩
/-- The row of depths: what an append to it asks, and what it leaves. -/
theorem S16.row14 (h : S16 w0 w' b g bm b9 b10 c va0 vd0 va vd x0 x2 vf vm vl all0 far0 all far fr ms ls n D m s nx A4 c4 A5 c5 b82 b92 f) (hb4 : b 4 = true) (hb13 : b 13 = true) (hb14 : b 14 = false) (hb18 : b 18 = false) : ∃ ok : Nat → Prop, vd = vd0 ∧ Kd.R (Kd.int .i64) 3 w' w0.heap.size ok vd0 far0 ∧ (∀ k, w'.heap.size ≤ k → ok k) ∧
 w'.heap[b92]? = some (.cells #[.int .i64 (f + 1)] 3 (0, 0)) ∧ Below w0.heap.size w0 w' ∧
 ∀ (v1 : Value) (w1 : World), Kd.R (Kd.int .i64) 3 w1 w0.heap.size ok v1 (far0 ++ [f + 1]) → Below w0.heap.size w0 w1 → w'.grownBy w1 vd0.ownBlock → S16 w0 w1 (up b 14) g bm b9 b10 (upd c w'.heap.size 4) va0 vd0 va v1 x0 x2 vf vm vl all0 far0 all (far0 ++ [f + 1]) fr ms ls n D m s nx A4 c4 A5 c5 b82 b92 f := by
 obtain ⟨rfl, rfl⟩ := h.a14 hb14
 have M := h.mem.upd 4
 have q13 := h.x13 hb13 hb14
 have h91 : upd c w'.heap.size 4 b9 = 8 := (upd_lt (blk_lt h.k9)).trans h.h9
 have h101 : upd c w'.heap.size 4 b10 = 8 := (upd_lt (blk_lt h.k10)).trans h.h10
 refine ⟨fun k => upd c w'.heap.size 4 k = 4, rfl, M.nd, fun k hk => upd_ge hk, q13.1, M.bel, ?_⟩
 intro v1 w1 hN hb hg
 have M2 := M.grow1 v1 _ hg hb hN
 have hnb : ∀ k, upd c w'.heap.size 4 k = 8 → some k ≠ vd.ownBlock := fun k hk e => absurd (hk.symm.trans (M.nd.1 k e.symm)) (by decide)
 exact ⟨M2, h91, blk_grown h.k9 hg (hnb b9 h91), h101, blk_grown h.k10 hg (hnb b10 h101), fun q => absurd (((up_ne (by decide)).symm.trans q).symm.trans hb4) (by decide), fun q => absurd (((up_ne (by decide)).symm.trans q).symm.trans hb4) (by decide), fun q0 => h.a4t ((up_ne (by decide)).symm.trans q0), fun q0 => absurd ((up_self b 14).symm.trans q0) (by decide), fun _ => rfl, fun q0 => h.s16 ((up_ne (by decide)).symm.trans q0), fun q0 => h.s16t ((up_ne (by decide)).symm.trans q0), fun q0 => h.s18 ((up_ne (by decide)).symm.trans q0), fun q => absurd (((up_ne (by decide)).symm.trans q).symm.trans hb18) (by decide), fun _ q => absurd (((up_ne (by decide)).symm.trans q).symm.trans hb4) (by decide), fun q0 q1 => absurd ((up_self b 14).symm.trans q1) (by decide)⟩
theorem S16.st16 (h : S16 w0 w' b g bm b9 b10 c va0 vd0 va vd x0 x2 vf vm vl all0 far0 all far fr ms ls n D m s nx A4 c4 A5 c5 b82 b92 f) (hb4 : b 4 = true) (hb14 : b 14 = true) : S16 w0 (w'.setCell ⟨g, 0, none⟩ va) (up b 16) g bm b9 b10 c va0 vd0 va vd va x2 vf vm vl all0 far0 all far fr ms ls n D m s nx A4 c4 A5 c5 b82 b92 f := by
 have hg9 : b9 ≠ g := fun e => absurd (h.h9.symm.trans ((congrArg c e).trans h.mem.cg)) (by decide)
 have hg10 : b10 ≠ g := fun e => absurd (h.h10.symm.trans ((congrArg c e).trans h.mem.cg)) (by decide)
 exact ⟨by simpa using h.mem.setg 0 va, h.h9, blk_far h.k9 hg9 _, h.h10, blk_far h.k10 hg10 _, fun q => absurd (((up_ne (by decide)).symm.trans q).symm.trans hb4) (by decide), fun q => absurd (((up_ne (by decide)).symm.trans q).symm.trans hb4) (by decide), fun q0 => h.a4t ((up_ne (by decide)).symm.trans q0), fun q0 => h.a14 ((up_ne (by decide)).symm.trans q0), fun q0 => h.a14t ((up_ne (by decide)).symm.trans q0), fun q0 => absurd ((up_self b 16).symm.trans q0) (by decide), fun _ => rfl, fun q0 => h.s18 ((up_ne (by decide)).symm.trans q0), fun q0 => h.s18t ((up_ne (by decide)).symm.trans q0), fun _ q => absurd (((up_ne (by decide)).symm.trans q).symm.trans hb4) (by decide), fun _ q => absurd (((up_ne (by decide)).symm.trans q).symm.trans hb14) (by decide)⟩
theorem S16.st18 (h : S16 w0 w' b g bm b9 b10 c va0 vd0 va vd x0 x2 vf vm vl all0 far0 all far fr ms ls n D m s nx A4 c4 A5 c5 b82 b92 f) (hb4 : b 4 = true) (hb14 : b 14 = true) : S16 w0 (w'.setCell ⟨g, 2, none⟩ vd) (up b 18) g bm b9 b10 c va0 vd0 va vd x0 vd vf vm vl all0 far0 all far fr ms ls n D m s nx A4 c4 A5 c5 b82 b92 f := by
 have hg9 : b9 ≠ g := fun e => absurd (h.h9.symm.trans ((congrArg c e).trans h.mem.cg)) (by decide)
 have hg10 : b10 ≠ g := fun e => absurd (h.h10.symm.trans ((congrArg c e).trans h.mem.cg)) (by decide)
 exact ⟨by simpa using h.mem.setg 2 vd, h.h9, blk_far h.k9 hg9 _, h.h10, blk_far h.k10 hg10 _, fun q => absurd (((up_ne (by decide)).symm.trans q).symm.trans hb4) (by decide), fun q => absurd (((up_ne (by decide)).symm.trans q).symm.trans hb4) (by decide), fun q0 => h.a4t ((up_ne (by decide)).symm.trans q0), fun q0 => h.a14 ((up_ne (by decide)).symm.trans q0), fun q0 => h.a14t ((up_ne (by decide)).symm.trans q0), fun q0 => h.s16 ((up_ne (by decide)).symm.trans q0), fun q0 => h.s16t ((up_ne (by decide)).symm.trans q0), fun q0 => absurd ((up_self b 18).symm.trans q0) (by decide), fun _ => rfl, fun _ q => absurd (((up_ne (by decide)).symm.trans q).symm.trans hb4) (by decide), fun _ q => absurd (((up_ne (by decide)).symm.trans q).symm.trans hb14) (by decide)⟩
theorem S16.fin (h : S16 w0 w' b g bm b9 b10 c va0 vd0 va vd x0 x2 vf vm vl all0 far0 all far fr ms ls n D m s nx A4 c4 A5 c5 b82 b92 f) (hb4 : b 4 = true) (hb14 : b 14 = true) (hb16 : b 16 = true) (hb18 : b 18 = true) (K : KInv D s ka) (hn : n ≤ ka.length) : MidJ w0 w' g b9 s ka (all0 ++ [⟨s, nx⟩]) (far0 ++ [f + 1]) fr ms vl ls m := by
 obtain rfl := h.a4t hb4
 obtain rfl := h.a14t hb14
 obtain rfl := h.s16t hb16
 obtain rfl := h.s18t hb18
 exact ⟨c, bm, _, _, vf, vm, n, D, h.mem, K, hn, h.h9, h.k9⟩
theorem S16.start (M : MemC w0 w' g bm c #[va0, .map (some bm), vd0, vf, vm] va0 vd0 vf vm vl all0 far0 fr ms ls n D) (h9 : c b9 = 8) (k9 : w'.heap[b9]? = some (.cells #[.int .i64 m.f0, .int .i64 m.f1] 56 (0, 0))) (h10 : c b10 = 8) (k10 : w'.heap[b10]? = some (.cells #[.slice A4 s.length c4, .slice A5 nx.length c5] 33 (0, 0))) (hF : Kd.FK k33 w' (fun k => c k = 6) ⟨s, nx⟩ [.slice A4 s.length c4, .slice A5 nx.length c5]) : S16 w0 w' (fun _ => false) g bm b9 b10 c va0 vd0 va0 vd0 va0 vd0 vf vm vl all0 far0 all0 far0 fr ms ls n D m s nx A4 c4 A5 c5 0 0 f :=
 ⟨M, h9, k9, h10, k10, fun _ => ⟨rfl, rfl⟩, fun _ => hF, fun q => absurd q (by decide), fun _ => ⟨rfl, rfl⟩, fun q => absurd q (by decide), fun _ => rfl, fun q => absurd q (by decide), fun _ => rfl, fun q => absurd q (by decide), fun q => absurd q (by decide), fun q => absurd q (by decide)⟩
end
structure S17 (w0 w' : World) (b : Nat → Bool) (g bm b9 : Nat) (c : Nat → Nat) (vf0 vm0 vf vm x3 x4 va vd vl : Value) (fr0 : List Int) (ms0 : List S56) (fr : List Int) (ms : List S56) (all : List S33) (far : List Int) (ls : List S56) (n : Nat) (D : DataW Nat) (m : S56) (b82 b92 : Nat) (i : Int) : Prop where
 mem : MemC w0 w' g bm c #[va, .map (some bm), vd, x3, x4] va vd vf vm vl all far fr ms ls n D
 h9 : c b9 = 8
 k9 : w'.heap[b9]? = some (.cells #[.int .i64 m.f0, .int .i64 m.f1] 56 (0, 0))
 a4 : b 4 = false → vf = vf0 ∧ fr = fr0
 a4t : b 4 = true → fr = fr0 ++ [i]
 a9 : b 9 = false → vm = vm0 ∧ ms = ms0
 a9t : b 9 = true → ms = ms0 ++ [m]
 s11 : b 11 = false → x3 = vf0
 s11t : b 11 = true → x3 = vf
 s13 : b 13 = false → x4 = vm0
 s13t : b 13 = true → x4 = vm
 x3_ : b 3 = true → b 4 = false → w'.heap[b82]? = some (.cells #[.int .i64 i] 3 (0, 0)) ∧ c b82 = 10
 x8 : b 8 = true → b 9 = false → w'.heap[b92]? = some (.cells #[.int .i64 m.f0, .int .i64 m.f1] 56 (0, 0)) ∧ c b92 = 10
section
variable {w0 w w' w1 w3 W9 w2 wx : World} {g bm b9 b10 : Nat} {c c' : Nat → Nat} {cs : Array Value} {va vd vf vm vl va0 vd0 vf0 vm0 x0 x2 x3 x4 : Value} {all all0 ka : List S33} {far far0 fr fr0 : List Int} {ms ms0 ls : List S56} {n : Nat} {D : DataW Nat} {m : S56} {s nx : List Int} {A4 A5 : Option Addr} {c4 c5 : Nat} {b : Nat → Bool} {b82 b92 : Nat} {f i : Int}
theorem S17.mv (h : S17 w0 w' b g bm b9 c vf0 vm0 vf vm x3 x4 va vd vl fr0 ms0 fr ms all far ls n D m b82 b92 i) (hb : Below w'.heap.size w' w1) (j : Nat) : S17 w0 w1 b g bm b9 (upd c w'.heap.size j) vf0 vm0 vf vm x3 x4 va vd vl fr0 ms0 fr ms all far ls n D m b82 b92 i :=
 ⟨(h.mem.upd j).below hb, (upd_lt (blk_lt h.k9)).trans h.h9, blk_below h.k9 hb, h.a4, h.a4t, h.a9, h.a9t, h.s11, h.s11t, h.s13, h.s13t, fun q q' => ⟨blk_below (h.x3_ q q').1 hb, (upd_lt (blk_lt (h.x3_ q q').1)).trans (h.x3_ q q').2⟩, fun q q' => ⟨blk_below (h.x8 q q').1 hb, (upd_lt (blk_lt (h.x8 q q').1)).trans (h.x8 q q').2⟩⟩
theorem S17.nop0 (h : S17 w0 w' b g bm b9 c vf0 vm0 vf vm x3 x4 va vd vl fr0 ms0 fr ms all far ls n D m b82 b92 i) : S17 w0 w' (up b 0) g bm b9 c vf0 vm0 vf vm x3 x4 va vd vl fr0 ms0 fr ms all far ls n D m b82 b92 i :=
 ⟨h.mem, h.h9, h.k9, fun q0 => h.a4 ((up_ne (by decide)).symm.trans q0), fun q0 => h.a4t ((up_ne (by decide)).symm.trans q0), fun q0 => h.a9 ((up_ne (by decide)).symm.trans q0), fun q0 => h.a9t ((up_ne (by decide)).symm.trans q0), fun q0 => h.s11 ((up_ne (by decide)).symm.trans q0), fun q0 => h.s11t ((up_ne (by decide)).symm.trans q0), fun q0 => h.s13 ((up_ne (by decide)).symm.trans q0), fun q0 => h.s13t ((up_ne (by decide)).symm.trans q0), fun q0 q1 => h.x3_ ((up_ne (by decide)).symm.trans q0) ((up_ne (by decide)).symm.trans q1), fun q0 q1 => h.x8 ((up_ne (by decide)).symm.trans q0) ((up_ne (by decide)).symm.trans q1)⟩
theorem S17.nop1 (h : S17 w0 w' b g bm b9 c vf0 vm0 vf vm x3 x4 va vd vl fr0 ms0 fr ms all far ls n D m b82 b92 i) : S17 w0 w' (up b 1) g bm b9 c vf0 vm0 vf vm x3 x4 va vd vl fr0 ms0 fr ms all far ls n D m b82 b92 i :=
 ⟨h.mem, h.h9, h.k9, fun q0 => h.a4 ((up_ne (by decide)).symm.trans q0), fun q0 => h.a4t ((up_ne (by decide)).symm.trans q0), fun q0 => h.a9 ((up_ne (by decide)).symm.trans q0), fun q0 => h.a9t ((up_ne (by decide)).symm.trans q0), fun q0 => h.s11 ((up_ne (by decide)).symm.trans q0), fun q0 => h.s11t ((up_ne (by decide)).symm.trans q0), fun q0 => h.s13 ((up_ne (by decide)).symm.trans q0), fun q0 => h.s13t ((up_ne (by decide)).symm.trans q0), fun q0 q1 => h.x3_ ((up_ne (by decide)).symm.trans q0) ((up_ne (by decide)).symm.trans q1), fun q0 q1 => h.x8 ((up_ne (by decide)).symm.trans q0) ((up_ne (by decide)).symm.trans q1)⟩
theorem S17.nop2 (h : S17 w0 w' b g bm b9 c vf0 vm0 vf vm x3 x4 va vd vl fr0 ms0 fr ms all far ls n D m b82 b92 i) : S17 w0 w' (up b 2) g bm b9 c vf0 vm0 vf vm x3 x4 va vd vl fr0 ms0 fr ms all far ls n D m b82 b92 i :=
 ⟨h.mem, h.h9, h.k9, fun q0 => h.a4 ((up_ne (by decide)).symm.trans q0), fun q0 => h.a4t ((up_ne (by decide)).symm.trans q0), fun q0 => h.a9 ((up_ne (by decide)).symm.trans q0), fun q0 => h.a9t ((up_ne (by decide)).symm.trans q0), fun q0 => h.s11 ((up_ne (by decide)).symm.trans q0), fun q0 => h.s11t ((up_ne (by decide)).symm.trans q0), fun q0 => h.s13 ((up_ne (by decide)).symm.trans q0), fun q0 => h.s13t ((up_ne (by decide)).symm.trans q0), fun q0 q1 => h.x3_ ((up_ne (by decide)).symm.trans q0) ((up_ne (by decide)).symm.trans q1), fun q0 q1 => h.x8 ((up_ne (by decide)).symm.trans q0) ((up_ne (by decide)).symm.trans q1)⟩
theorem S17.nop5 (h : S17 w0 w' b g bm b9 c vf0 vm0 vf vm x3 x4 va vd vl fr0 ms0 fr ms all far ls n D m b82 b92 i) : S17 w0 w' (up b 5) g bm b9 c vf0 vm0 vf vm x3 x4 va vd vl fr0 ms0 fr ms all far ls n D m b82 b92 i :=
 ⟨h.mem, h.h9, h.k9, fun q0 => h.a4 ((up_ne (by decide)).symm.trans q0), fun q0 => h.a4t ((up_ne (by decide)).symm.trans q0), fun q0 => h.a9 ((up_ne (by decide)).symm.trans q0), fun q0 => h.a9t ((up_ne (by decide)).symm.trans q0), fun q0 => h.s11 ((up_ne (by decide)).symm.trans q0), fun q0 => h.s11t ((up_ne (by decide)).symm.trans q0), fun q0 => h.s13 ((up_ne (by decide)).symm.trans q0), fun q0 => h.s13t ((up_ne (by decide)).symm.trans q0), fun q0 q1 => h.x3_ ((up_ne (by decide)).symm.trans q0) ((up_ne (by decide)).symm.trans q1), fun q0 q1 => h.x8 ((up_ne (by decide)).symm.trans q0) ((up_ne (by decide)).symm.trans q1)⟩
theorem S17.nop6 (h : S17 w0 w' b g bm b9 c vf0 vm0 vf vm x3 x4 va vd vl fr0 ms0 fr ms all far ls n D m b82 b92 i) : S17 w0 w' (up b 6) g bm b9 c vf0 vm0 vf vm x3 x4 va vd vl fr0 ms0 fr ms all far ls n D m b82 b92 i :=
 ⟨h.mem, h.h9, h.k9, fun q0 => h.a4 ((up_ne (by decide)).symm.trans q0), fun q0 => h.a4t ((up_ne (by decide)).symm.trans q0), fun q0 => h.a9 ((up_ne (by decide)).symm.trans q0), fun q0 => h.a9t ((up_ne (by decide)).symm.trans q0), fun q0 => h.s11 ((up_ne (by decide)).symm.trans q0), fun q0 => h.s11t ((up_ne (by decide)).symm.trans q0), fun q0 => h.s13 ((up_ne (by decide)).symm.trans q0), fun q0 => h.s13t ((up_ne (by decide)).symm.trans q0), fun q0 q1 => h.x3_ ((up_ne (by decide)).symm.trans q0) ((up_ne (by decide)).symm.trans q1), fun q0 q1 => h.x8 ((up_ne (by decide)).symm.trans q0) ((up_ne (by decide)).symm.trans q1)⟩
theorem S17.nop7 (h : S17 w0 w' b g bm b9 c vf0 vm0 vf vm x3 x4 va vd vl fr0 ms0 fr ms all far ls n D m b82 b92 i) : S17 w0 w' (up b 7) g bm b9 c vf0 vm0 vf vm x3 x4 va vd vl fr0 ms0 fr ms all far ls n D m b82 b92 i :=
 ⟨h.mem, h.h9, h.k9, fun q0 => h.a4 ((up_ne (by decide)).symm.trans q0), fun q0 => h.a4t ((up_ne (by decide)).symm.trans q0), fun q0 => h.a9 ((up_ne (by decide)).symm.trans q0), fun q0 => h.a9t ((up_ne (by decide)).symm.trans q0), fun q0 => h.s11 ((up_ne (by decide)).symm.trans q0), fun q0 => h.s11t ((up_ne (by decide)).symm.trans q0), fun q0 => h.s13 ((up_ne (by decide)).symm.trans q0), fun q0 => h.s13t ((up_ne (by decide)).symm.trans q0), fun q0 q1 => h.x3_ ((up_ne (by decide)).symm.trans q0) ((up_ne (by decide)).symm.trans q1), fun q0 q1 => h.x8 ((up_ne (by decide)).symm.trans q0) ((up_ne (by decide)).symm.trans q1)⟩
theorem S17.nop10 (h : S17 w0 w' b g bm b9 c vf0 vm0 vf vm x3 x4 va vd vl fr0 ms0 fr ms all far ls n D m b82 b92 i) : S17 w0 w' (up b 10) g bm b9 c vf0 vm0 vf vm x3 x4 va vd vl fr0 ms0 fr ms all far ls n D m b82 b92 i :=
 ⟨h.mem, h.h9, h.k9, fun q0 => h.a4 ((up_ne (by decide)).symm.trans q0), fun q0 => h.a4t ((up_ne (by decide)).symm.trans q0), fun q0 => h.a9 ((up_ne (by decide)).symm.trans q0), fun q0 => h.a9t ((up_ne (by decide)).symm.trans q0), fun q0 => h.s11 ((up_ne (by decide)).symm.trans q0), fun q0 => h.s11t ((up_ne (by decide)).symm.trans q0), fun q0 => h.s13 ((up_ne (by decide)).symm.trans q0), fun q0 => h.s13t ((up_ne (by decide)).symm.trans q0), fun q0 q1 => h.x3_ ((up_ne (by decide)).symm.trans q0) ((up_ne (by decide)).symm.trans q1), fun q0 q1 => h.x8 ((up_ne (by decide)).symm.trans q0) ((up_ne (by decide)).symm.trans q1)⟩
theorem S17.nop12 (h : S17 w0 w' b g bm b9 c vf0 vm0 vf vm x3 x4 va vd vl fr0 ms0 fr ms all far ls n D m b82 b92 i) : S17 w0 w' (up b 12) g bm b9 c vf0 vm0 vf vm x3 x4 va vd vl fr0 ms0 fr ms all far ls n D m b82 b92 i :=
 ⟨h.mem, h.h9, h.k9, fun q0 => h.a4 ((up_ne (by decide)).symm.trans q0), fun q0 => h.a4t ((up_ne (by decide)).symm.trans q0), fun q0 => h.a9 ((up_ne (by decide)).symm.trans q0), fun q0 => h.a9t ((up_ne (by decide)).symm.trans q0), fun q0 => h.s11 ((up_ne (by decide)).symm.trans q0), fun q0 => h.s11t ((up_ne (by decide)).symm.trans q0), fun q0 => h.s13 ((up_ne (by decide)).symm.trans q0), fun q0 => h.s13t ((up_ne (by decide)).symm.trans q0), fun q0 q1 => h.x3_ ((up_ne (by decide)).symm.trans q0) ((up_ne (by decide)).symm.trans q1), fun q0 q1 => h.x8 ((up_ne (by decide)).symm.trans q0) ((up_ne (by decide)).symm.trans q1)⟩
theorem S17.add3 (h : S17 w0 w' b g bm b9 c vf0 vm0 vf vm x3 x4 va vd vl fr0 ms0 fr ms all far ls n D m b82 b92 i) : S17 w0 (w'.alloc (.cells #[.int .i64 i] 3)) (up b 3) g bm b9 (upd c w'.heap.size 10) vf0 vm0 vf vm x3 x4 va vd vl fr0 ms0 fr ms all far ls n D m w'.heap.size b92 i := by
 have M := h.mv (below_alloc (Below.refl _ _) (.cells #[.int .i64 i] 3)) 10
 exact ⟨M.mem, M.h9, M.k9, fun q0 => M.a4 ((up_ne (by decide)).symm.trans q0), fun q0 => M.a4t ((up_ne (by decide)).symm.trans q0), fun q0 => M.a9 ((up_ne (by decide)).symm.trans q0), fun q0 => M.a9t ((up_ne (by decide)).symm.trans q0), fun q0 => M.s11 ((up_ne (by decide)).symm.trans q0), fun q0 => M.s11t ((up_ne (by decide)).symm.trans q0), fun q0 => M.s13 ((up_ne (by decide)).symm.trans q0), fun q0 => M.s13t ((up_ne (by decide)).symm.trans q0), fun _ _ => ⟨blk_new _ _, upd_ge (Nat.le_refl _)⟩, fun q0 q1 => M.x8 ((up_ne (by decide)).symm.trans q0) ((up_ne (by decide)).symm.trans q1)⟩
theorem S17.add8 (h : S17 w0 w' b g bm b9 c vf0 vm0 vf vm x3 x4 va vd vl fr0 ms0 fr ms all far ls n D m b82 b92 i) : S17 w0 (w'.alloc (.cells #[.int .i64 m.f0, .int .i64 m.f1] 56)) (up b 8) g bm b9 (upd c w'.heap.size 10) vf0 vm0 vf vm x3 x4 va vd vl fr0 ms0 fr ms all far ls n D m b82 w'.heap.size i := by
 have M := h.mv (below_alloc (Below.refl _ _) (.cells #[.int .i64 m.f0, .int .i64 m.f1] 56)) 10
 exact ⟨M.mem, M.h9, M.k9, fun q0 => M.a4 ((up_ne (by decide)).symm.trans q0), fun q0 => M.a4t ((up_ne (by decide)).symm.trans q0), fun q0 => M.a9 ((up_ne (by decide)).symm.trans q0), fun q0 => M.a9t ((up_ne (by decide)).symm.trans q0), fun q0 => M.s11 ((up_ne (by decide)).symm.trans q0), fun q0 => M.s11t ((up_ne (by decide)).symm.trans q0), fun q0 => M.s13 ((up_ne (by decide)).symm.trans q0), fun q0 => M.s13t ((up_ne (by decide)).symm.trans q0), fun q0 q1 => M.x3_ ((up_ne (by decide)).symm.trans q0) ((up_ne (by decide)).symm.trans q1), fun _ _ => ⟨blk_new _ _, upd_ge (Nat.le_refl _)⟩⟩
theorem S17.row4 (h : S17 w0 w' b g bm b9 c vf0 vm0 vf vm x3 x4 va vd vl fr0 ms0 fr ms all far ls n D m b82 b92 i) (hb3 : b 3 = true) (hb4 : b 4 = false) (hb11 : b 11 = false) : ∃ ok : Nat → Prop, vf = vf0 ∧ Kd.R (Kd.int .i64) 3 w' w0.heap.size ok vf0 fr0 ∧ (∀ k, w'.heap.size ≤ k → ok k) ∧
 w'.heap[b82]? = some (.cells #[.int .i64 i] 3 (0, 0)) ∧ Below w0.heap.size w0 w' ∧
 ∀ (v1 : Value) (w1 : World), Kd.R (Kd.int .i64) 3 w1 w0.heap.size ok v1 (fr0 ++ [i]) → Below w0.heap.size w0 w1 → w'.grownBy w1 vf0.ownBlock → S17 w0 w1 (up b 4) g bm b9 (upd c w'.heap.size 2) vf0 vm0 v1 vm x3 x4 va vd vl fr0 ms0 (fr0 ++ [i]) ms all far ls n D m b82 b92 i := by
 obtain ⟨rfl, rfl⟩ := h.a4 hb4
 have M := h.mem.upd 2
 have q := h.x3_ hb3 hb4
 have h91 : upd c w'.heap.size 2 b9 = 8 := (upd_lt (blk_lt h.k9)).trans h.h9
 refine ⟨fun k => upd c w'.heap.size 2 k = 2, rfl, M.nf, fun k hk => upd_ge hk, q.1, M.bel, ?_⟩
 intro v1 w1 hN hb hg
 have M2 := M.grow2 v1 _ hg hb hN
 have hnb : ∀ k, upd c w'.heap.size 2 k = 8 → some k ≠ vf.ownBlock := fun k hk e => absurd (hk.symm.trans (M.nf.1 k e.symm)) (by decide)
 exact ⟨M2, h91, blk_grown h.k9 hg (hnb b9 h91), fun q0 => absurd ((up_self b 4).symm.trans q0) (by decide), fun _ => rfl, fun q0 => h.a9 ((up_ne (by decide)).symm.trans q0), fun q0 => h.a9t ((up_ne (by decide)).symm.trans q0), fun q0 => h.s11 ((up_ne (by decide)).symm.trans q0), fun q => absurd (((up_ne (by decide)).symm.trans q).symm.trans hb11) (by decide), fun q0 => h.s13 ((up_ne (by decide)).symm.trans q0), fun q0 => h.s13t ((up_ne (by decide)).symm.trans q0), fun q0 q1 => absurd ((up_self b 4).symm.trans q1) (by decide), fun q0 q1 => ⟨blk_grown (h.x8 ((up_ne (by decide)).symm.trans q0) ((up_ne (by decide)).symm.trans q1)).1 hg (fun e => absurd (((upd_lt (blk_lt (h.x8 ((up_ne (by decide)).symm.trans q0) ((up_ne (by decide)).symm.trans q1)).1)).trans (h.x8 ((up_ne (by decide)).symm.trans q0) ((up_ne (by decide)).symm.trans q1)).2).symm.trans (M.nf.1 b92 e.symm)) (by decide)), (upd_lt (blk_lt (h.x8 ((up_ne (by decide)).symm.trans q0) ((up_ne (by decide)).symm.trans q1)).1)).trans (h.x8 ((up_ne (by decide)).symm.trans q0) ((up_ne (by decide)).symm.trans q1)).2⟩⟩
theorem S17.row9 (h : S17 w0 w' b g bm b9 c vf0 vm0 vf vm x3 x4 va vd vl fr0 ms0 fr ms all far ls n D m b82 b92 i) (hb4 : b 4 = true) (hb8 : b 8 = true) (hb9 : b 9 = false) (hb13 : b 13 = false) : ∃ ok : Nat → Prop, vm = vm0 ∧ Kd.R k56 56 w' w0.heap.size ok vm0 ms0 ∧ (∀ k, w'.heap.size ≤ k → ok k) ∧
 w'.heap[b92]? = some (.cells #[.int .i64 m.f0, .int .i64 m.f1] 56 (0, 0)) ∧ Below w0.heap.size w0 w' ∧
 ∀ (v1 : Value) (w1 : World), Kd.R k56 56 w1 w0.heap.size ok v1 (ms0 ++ [m]) → Below w0.heap.size w0 w1 → w'.grownBy w1 vm0.ownBlock → S17 w0 w1 (up b 9) g bm b9 (upd c w'.heap.size 3) vf0 vm0 vf v1 x3 x4 va vd vl fr0 ms0 fr (ms0 ++ [m]) all far ls n D m b82 b92 i := by
 obtain ⟨rfl, rfl⟩ := h.a9 hb9
 have M := h.mem.upd 3
 have q := h.x8 hb8 hb9
 have h91 : upd c w'.heap.size 3 b9 = 8 := (upd_lt (blk_lt h.k9)).trans h.h9
 refine ⟨fun k => upd c w'.heap.size 3 k = 3, rfl, M.nm, fun k hk => upd_ge hk, q.1, M.bel, ?_⟩
 intro v1 w1 hN hb hg
 have M2 := M.grow3 v1 _ hg hb hN
 have hnb : ∀ k, upd c w'.heap.size 3 k = 8 → some k ≠ vm.ownBlock := fun k hk e => absurd (hk.symm.trans (M.nm.1 k e.symm)) (by decide)
 exact ⟨M2, h91, blk_grown h.k9 hg (hnb b9 h91), fun q0 => h.a4 ((up_ne (by decide)).symm.trans q0), fun q0 => h.a4t ((up_ne (by decide)).symm.trans q0), fun q0 => absurd ((up_self b 9).symm.trans q0) (by decide), fun _ => rfl, fun q0 => h.s11 ((up_ne (by decide)).symm.trans q0), fun q0 => h.s11t ((up_ne (by decide)).symm.trans q0), fun q0 => h.s13 ((up_ne (by decide)).symm.trans q0), fun q => absurd (((up_ne (by decide)).symm.trans q).symm.trans hb13) (by decide), fun _ q => absurd (((up_ne (by decide)).symm.trans q).symm.trans hb4) (by decide), fun q0 q1 => absurd ((up_self b 9).symm.trans q1) (by decide)⟩
theorem S17.st11 (h : S17 w0 w' b g bm b9 c vf0 vm0 vf vm x3 x4 va vd vl fr0 ms0 fr ms all far ls n D m b82 b92 i) (hb4 : b 4 = true) (hb9 : b 9 = true) : S17 w0 (w'.setCell ⟨g, 3, none⟩ vf) (up b 11) g bm b9 c vf0 vm0 vf vm vf x4 va vd vl fr0 ms0 fr ms all far ls n D m b82 b92 i := by
 have hg9 : b9 ≠ g := fun e => absurd (h.h9.symm.trans ((congrArg c e).trans h.mem.cg)) (by decide)
 exact ⟨by simpa using h.mem.setg 3 vf, h.h9, blk_far h.k9 hg9 _, fun q0 => h.a4 ((up_ne (by decide)).symm.trans q0), fun q0 => h.a4t ((up_ne (by decide)).symm.trans q0), fun q0 => h.a9 ((up_ne (by decide)).symm.trans q0), fun q0 => h.a9t ((up_ne (by decide)).symm.trans q0), fun q0 => absurd ((up_self b 11).symm.trans q0) (by decide), fun _ => rfl, fun q0 => h.s13 ((up_ne (by decide)).symm.trans q0), fun q0 => h.s13t ((up_ne (by decide)).symm.trans q0), fun _ q => absurd (((up_ne (by decide)).symm.trans q).symm.trans hb4) (by decide), fun _ q => absurd (((up_ne (by decide)).symm.trans q).symm.trans hb9) (by decide)⟩
theorem S17.st13 (h : S17 w0 w' b g bm b9 c vf0 vm0 vf vm x3 x4 va vd vl fr0 ms0 fr ms all far ls n D m b82 b92 i) (hb4 : b 4 = true) (hb9 : b 9 = true) : S17 w0 (w'.setCell ⟨g, 4, none⟩ vm) (up b 13) g bm b9 c vf0 vm0 vf vm x3 vm va vd vl fr0 ms0 fr ms all far ls n D m b82 b92 i := by
 have hg9 : b9 ≠ g := fun e => absurd (h.h9.symm.trans ((congrArg c e).trans h.mem.cg)) (by decide)
 exact ⟨by simpa using h.mem.setg 4 vm, h.h9, blk_far h.k9 hg9 _, fun q0 => h.a4 ((up_ne (by decide)).symm.trans q0), fun q0 => h.a4t ((up_ne (by decide)).symm.trans q0), fun q0 => h.a9 ((up_ne (by decide)).symm.trans q0), fun q0 => h.a9t ((up_ne (by decide)).symm.trans q0), fun q0 => h.s11 ((up_ne (by decide)).symm.trans q0), fun q0 => h.s11t ((up_ne (by decide)).symm.trans q0), fun q0 => absurd ((up_self b 13).symm.trans q0) (by decide), fun _ => rfl, fun _ q => absurd (((up_ne (by decide)).symm.trans q).symm.trans hb4) (by decide), fun _ q => absurd (((up_ne (by decide)).symm.trans q).symm.trans hb9) (by decide)⟩
theorem S17.fin (h : S17 w0 w' b g bm b9 c vf0 vm0 vf vm x3 x4 va vd vl fr0 ms0 fr ms all far ls n D m b82 b92 i) (hb4 : b 4 = true) (hb9 : b 9 = true) (hb11 : b 11 = true) (hb13 : b 13 = true) (K : KInv D s all) (hn : n ≤ all.length) : HeldI w0 w' g s ⟨all, fr0 ++ [i], ms0 ++ [m], far, []⟩ vl ls := by
 obtain rfl := h.a4t hb4
 obtain rfl := h.a9t hb9
 obtain rfl := h.s11t hb11
 obtain rfl := h.s13t hb13
 exact ⟨c, bm, va, vd, _, _, n, D, h.mem, K, hn⟩
theorem S17.start (M : MemC w0 w' g bm c #[va, .map (some bm), vd, vf0, vm0] va vd vf0 vm0 vl all far fr0 ms0 ls n D) (h9 : c b9 = 8) (k9 : w'.heap[b9]? = some (.cells #[.int .i64 m.f0, .int .i64 m.f1] 56 (0, 0))) : S17 w0 w' (fun _ => false) g bm b9 c vf0 vm0 vf0 vm0 vf0 vm0 va vd vl fr0 ms0 fr0 ms0 all far ls n D m 0 0 i :=
 ⟨M, h9, k9, fun _ => ⟨rfl, rfl⟩, fun q => absurd q (by decide), fun _ => ⟨rfl, rfl⟩, fun q => absurd q (by decide), fun _ => rfl, fun q => absurd q (by decide), fun _ => rfl, fun q => absurd q (by decide), fun q => absurd q (by decide), fun q => absurd q (by decide)⟩
end
section
variable {P : Program} {ops : Array Oper} {o : Oper} {a : Act} {Q : Exit → Act → World → Prop} {Kc : Act → World → Prop} {E : Prop} {α : Type}
/-- An append to a row of rows, from a box of the row's own colour. -/
theorem N_app_at (d : Kd α) {w0 W : World} (base : Nat) (hgd : o.guard = none) (s x : Operand) (t e : TypeId) (z : Value) (bytes : Nat)
 (ho : o.op = .call { callee := .builtin .append, args := #[s, x], argTypes := #[t, t] })
 (ht : P.underlying t = some (.slice e)) (hinfo : (P.info? e).map (fun i => (i.zero, i.size, i.bytes)) = some (some z, d.sz, bytes)) (hz : z.cells.size = d.sz) (hs0 : 0 < d.sz) (hb0 : 0 < bytes)
 (v : Value) (xs : List α) (p : α) (cs : List Value) (ok : Nat → Prop) (b : Nat) (hs : a.eval s = v) (hx : a.eval x = .slice (some ⟨b, 0, none⟩) 1 1)
 (hN : Kd.N d e W base ok v xs) (hfr : ∀ k, W.heap.size ≤ k → ok k) (hF : Kd.FK d W (fun k => ok k ∧ some k ≠ v.ownBlock) p cs) (hokb : ok b) (hneb : some b ≠ v.ownBlock) (hbw : Below base w0 W) (hbase : base ≤ W.heap.size) (hl : (xs.length + 1) * bytes ≤ 140737488355328)
 (hk : W.heap[b]? = some (.cells cs.toArray e (0, 0)))
 (h : ∀ v1 w1, Kd.N d e w1 base ok v1 (xs ++ [p]) → Below base w0 w1 → W.grownBy w1 v.ownBlock → (v1.ownBlock = v.ownBlock ∨ ∃ b, v1.ownBlock = some b ∧ W.heap.size ≤ b) → Kc (a.put o.dst v1) w1) :
 if Region.wanted o (yielded ops a.tmps) = true then Oper.wp P o a W Kc Q else E := by
 have hw : Region.wanted o (yielded ops a.tmps) = true := by simp [Region.wanted, hgd]
 rw [if_pos hw]
 have hC : Kd.F d W (fun k => k = b ∨ (ok k ∧ some k ≠ v.ownBlock)) (some ⟨b, 0, none⟩) 1 [p] := by
  intro W' hW'
  have hkb : W'.heap[b]? = some (.cells cs.toArray e (0, 0)) := (hW' b (.inl rfl) (blk_lt hk)).trans hk
  have hK : d.K W' p cs := hF W' (fun k hk => hW' k (.inr hk))
  refine ⟨rfl, by omega, fun _ => ⟨_, rfl, fun j q hj => ?_⟩⟩
  rcases j with _ | j
  · simp only [List.getElem?_cons_zero, Option.some.injEq] at hj
    subst hj
    refine ⟨cs, d.K_len hK, hK, fun i u hu => ?_⟩
    have := cells_of_blk hkb i u hu
    rw [show ((⟨b, 0, none⟩ : Addr).add (0 * d.sz + i)) = ⟨b, i, none⟩ by simp [Addr.add]; try omega]
    exact this
  · simp at hj
 have hgo := Kd.N_append_rows_step (P := P) (ops := ops) (o := o) (a := a) (Q := Q) (Kc := Kc) d (w0 := w0) (W := W) base hw s x t e z bytes ho ht hinfo hz hs0 hb0 v xs [p] (some ⟨b, 0, none⟩) 1 1 ok (fun k => k = b ∨ (ok k ∧ some k ≠ v.ownBlock)) hs hx hN hC
  (fun k hk => hk.elim (fun e => e ▸ ⟨hokb, hneb⟩) id) hfr hbw hbase hl h
 rwa [if_pos hw] at hgo
end
end Go.Proofs.Ytjllbahhkeglfaa.P
namespace Go.Proofs.Ytjllbahhkeglfaa.P
open Go.RowKit Go.Proofs.YtjllbahhkeglfaaW.PrintWords Go.Proofs.YtjllbahhkeglfaaW.PrintLast Go.Proofs.YtjllbahhkeglfaaW.PrintMore
set_option linter.unusedVariables false
set_option linter.unusedSimpArgs false
def impl_reachOf.T3 : Bool × List (List Nat × List Nat) := (true, [([], []), ([0], [0]), ([1], [1]), ([], []), ([], []), ([4, 1], [4]), ([3, 5], [3, 5]), ([3, 4, 5, 6], [3]), ([], []), ([], []), ([], []), ([10], [10]), ([2, 7, 8, 9, 11], [2, 7, 8, 9, 11]), ([], []), ([13, 12, 5, 0, 1, 2, 3, 4, 5, 6, 7, 8, 9, 10, 11, 12, 13], [12, 13])])
def impl_reachOf.B3 : List Nat := [0, 1, 3, 0, 0, 19, 59, 123, 0, 0, 0, 1024, 4095, 0, 16383]
theorem impl_reachOf.tab3 : rtab .any (opsOf Try.f91 3) = impl_reachOf.T3 := by kernel_rfl
theorem impl_reachOf.bits3 : waitsOk impl_reachOf.T3.2 impl_reachOf.B3 = true := by kernel_rfl
def impl_reachOf.T16 : Bool × List (List Nat × List Nat) := (true, [([], []), ([0], [0]), ([], []), ([2], [2]), ([1, 3], [1, 3]), ([], []), ([5], [5]), ([], []), ([7], [7]), ([], []), ([8, 9], [8, 9]), ([10], [10]), ([11], [11]), ([12], [12]), ([6, 13, 4], [6, 13]), ([0, 1, 2, 3, 4, 5, 6, 7, 8], []), ([15, 4, 14, 0, 1, 2, 3, 4, 5, 6, 7, 8], [4, 15]), ([0, 1, 2, 3, 4, 5, 6, 7, 8, 9, 10, 11, 12, 13, 14, 15, 16], []), ([17, 14, 16, 0, 1, 2, 3, 4, 5, 6, 7, 8, 9, 10, 11, 12, 13, 14, 15, 16], [14, 17])])
def impl_reachOf.B16 : List Nat := [0, 1, 0, 4, 15, 0, 32, 0, 128, 0, 896, 1920, 3968, 8064, 16383, 511, 65535, 131071, 262143]
theorem impl_reachOf.tab16 : rtab .any (opsOf Try.f91 16) = impl_reachOf.T16 := by kernel_rfl
theorem impl_reachOf.bits16 : waitsOk impl_reachOf.T16.2 impl_reachOf.B16 = true := by kernel_rfl
def impl_reachOf.T17 : Bool × List (List Nat × List Nat) := (true, [([], []), ([0], [0]), ([], []), ([2], [2]), ([1, 3], [1, 3]), ([], []), ([5], [5]), ([], []), ([7], [7]), ([6, 8, 4], [6, 8]), ([0, 1, 2, 3, 4, 5, 6], []), ([10, 4, 9, 0, 1, 2, 3, 4, 5, 6], [4, 10]), ([0, 1, 2, 3, 4, 5, 6, 7, 8, 9, 10, 11], []), ([12, 9, 11, 0, 1, 2, 3, 4, 5, 6, 7, 8, 9, 10, 11], [9, 12])])
def impl_reachOf.B17 : List Nat := [0, 1, 0, 4, 15, 0, 32, 0, 128, 511, 127, 2047, 4095, 8191]
theorem impl_reachOf.tab17 : rtab .any (opsOf Try.f91 17) = impl_reachOf.T17 := by kernel_rfl
theorem impl_reachOf.bits17 : waitsOk impl_reachOf.T17.2 impl_reachOf.B17 = true := by kernel_rfl
/-- What reachOf leaves: the search, to be read, with its map, or nothing. -/
def ReachX (w : World) (s : List Int) (RES : Option Srch) (e : Ending) (w' : World) : Prop :=
 Below w.heap.size w w' ∧ match RES with
  | some r => ∃ (Aa : Option Addr) (ca b : Nat) (Ad : Option Addr) (cd : Nat) (Af : Option Addr) (cf : Nat) (Am : Option Addr) (cm : Nat) (n : Nat) (D : DataW Nat), e = .returned (.tuple #[.agg #[.slice Aa r.all.length ca, .map (some b), .slice Ad r.far.length cd, .slice Af r.fr.length cf, .slice Am r.ms.length cm], .bool true]) ∧
     (r.all.length ≤ ca ∧ r.far.length ≤ cd ∧ r.fr.length ≤ cf ∧ r.ms.length ≤ cm) ∧ Kd.C k33 w' Aa r.all.length r.all ∧ Kd.C (Kd.int .i64) w' Ad r.far.length r.far ∧ Kd.C (Kd.int .i64) w' Af r.fr.length r.fr ∧ Kd.C k56 w' Am r.ms.length r.ms ∧ OM w' b n D ∧ KInv D s r.all
  | none => e = .returned (.tuple #[.agg #[.slice none 0 0, .map none, .slice none 0 0, .slice none 0 0, .slice none 0 0], .bool false])
/-- The program's search, where the vessels are right. -/
noncomputable def reachM (M : Nat) (l0 l1 : List Int) (cl : Bool) : Option Srch := if goodB l0 l1 = true then iBfs l0 M cl 3001 0 (fgt (sStart l0 l1)) else none
theorem reach_fin {w2 wr WF : World} {g bm n : Nat} {c : Nat → Nat} {cs : Array Value} {s : List Int} {r : Srch} {Aa Ad Af Am : Option Addr} {ca cd cf cm : Nat} {vl : Value} {ls : List S56} {D : DataW Nat} (M : MemC w2 wr g bm c cs (.slice Aa r.all.length ca) (.slice Ad r.far.length cd) (.slice Af r.fr.length cf) (.slice Am r.ms.length cm) vl r.all r.far r.fr r.ms ls n D) (K : KInv D s r.all) (hk : ∀ k, w2.heap.size ≤ k → WF.heap[k]? = wr.heap[k]?) :
 ∃ (Aa' : Option Addr) (ca' b' : Nat) (Ad' : Option Addr) (cd' : Nat) (Af' : Option Addr) (cf' : Nat) (Am' : Option Addr) (cm' : Nat) (n' : Nat) (D' : DataW Nat), Ending.returned (.tuple #[.agg #[.slice Aa r.all.length ca, .map (some bm), .slice Ad r.far.length cd, .slice Af r.fr.length cf, .slice Am r.ms.length cm], .bool true]) = .returned (.tuple #[.agg #[.slice Aa' r.all.length ca', .map (some b'), .slice Ad' r.far.length cd', .slice Af' r.fr.length cf', .slice Am' r.ms.length cm'], .bool true]) ∧
  (r.all.length ≤ ca' ∧ r.far.length ≤ cd' ∧ r.fr.length ≤ cf' ∧ r.ms.length ≤ cm') ∧ Kd.C k33 WF Aa' r.all.length r.all ∧ Kd.C (Kd.int .i64) WF Ad' r.far.length r.far ∧ Kd.C (Kd.int .i64) WF Af' r.fr.length r.fr ∧ Kd.C k56 WF Am' r.ms.length r.ms ∧ OM WF b' n' D' ∧ KInv D' s r.all := by
 have hge : ∀ k, c k ≠ 0 → w2.heap.size ≤ k := fun k h => Nat.le_of_not_lt (fun hlt => h (M.lo k hlt))
 have hst : ∀ (i : Nat), i ≠ 0 → ∀ k, c k = i → k < wr.heap.size → WF.heap[k]? = wr.heap[k]? := fun i hi k hc _ => hk k (hge k (by omega))
 have na : Kd.N k33 33 WF w2.heap.size (ok1 c) (.slice Aa r.all.length ca) r.all := Kd.N_step M.na (fun k hk1 hlt => hk1.elim (fun h => hst 1 (by decide) k h hlt) (fun h => hst 6 (by decide) k h hlt))
 have nd : Kd.R (Kd.int .i64) 3 WF w2.heap.size (fun k => c k = 4) (.slice Ad r.far.length cd) r.far := Kd.R_step M.nd (hst 4 (by decide))
 have nf : Kd.R (Kd.int .i64) 3 WF w2.heap.size (fun k => c k = 2) (.slice Af r.fr.length cf) r.fr := Kd.R_step M.nf (hst 2 (by decide))
 have nm : Kd.R k56 56 WF w2.heap.size (fun k => c k = 3) (.slice Am r.ms.length cm) r.ms := Kd.R_step M.nm (hst 3 (by decide))
 exact ⟨_, _, _, _, _, _, _, _, _, _, _, rfl, ⟨(Kd.N_reads' na).2.1, (Kd.R_reads' nd).2.1, (Kd.R_reads' nf).2.1, (Kd.R_reads' nm).2.1⟩, (Kd.N_reads' na).2.2, (Kd.R_reads' nd).2.2, (Kd.R_reads' nf).2.2, (Kd.R_reads' nm).2.2, M.mp.blk (hk bm M.bb), K⟩
theorem zero3 (W : World) : (zeroValue 3).run Try.prog W = .ok (.int .i64 0) W := by kernel_rfl
theorem impl_own_eq {l0 l1 : List Int} (h0 : l0.length < 17592186044416) (h1 : l1.length < 17592186044416) : impl_Vessels_own.f l0 l1 = some (l0, l1) := by
 unfold impl_Vessels_own.f slices_Clone_int_int.f
 rw [if_pos h0, if_pos h1]
 rfl
set_option maxHeartbeats 8000000 in
set_option maxRecDepth 100000 in
theorem impl_reachOf.callsX (M : Nat) (hM1 : 1 ≤ M) (hM : M ≤ 3000) (cl : Bool) (A0 A1 : Option Addr) (c0 c1 : Nat) (l0 l1 : List Int) (w : World) (hr0 : Kd.C (Kd.int .i64) w A0 l0.length l0) (hc0 : l0.length ≤ c0) (hr1 : Kd.C (Kd.int .i64) w A1 l1.length l1) (hc1 : l1.length ≤ c1) :
 Calls Try.prog 91 #[.agg #[.slice A0 l0.length c0, .slice A1 l1.length c1], .bool cl, .int .i64 (M : Int)] w (ReachX w l0 (reachM M l0 l1 cl)) := by
 obtain ⟨k, hk⟩ := (impl_are_ev l0 l1).rounds
 have HC40 : Hid (∀ W, Below w.heap.size w W → Calls Try.prog 40 #[.agg #[.slice A0 l0.length c0, .slice A1 l1.length c1]] W fun e w' => e = .returned (.bool (goodB l0 l1)) ∧ Below W.heap.size W w') := by
  intro W hW
  exact impl_AreVessels.calls k A0 c0 l0 A1 c1 l1 _ W (Kd.C_below hr0 hW) hc0 (Kd.C_below hr1 hW) hc1 hk
 clear hk
 have b1 := below_alloc (below_alloc (Below.refl w.heap.size w) (.cells #[.slice A0 l0.length c0, .slice A1 l1.length c1] 33)) (.cells #[.slice none 0 0, .map none, .slice none 0 0, .slice none 0 0, .slice none 0 0] 97)
 have k6 := blk_new (w.alloc (.cells #[.slice A0 l0.length c0, .slice A1 l1.length c1] 33)) (.cells #[.slice none 0 0, .map none, .slice none 0 0, .slice none 0 0, .slice none 0 0] 97)
 rw [show (w.alloc (.cells #[.slice A0 l0.length c0, .slice A1 l1.length c1] 33)).heap.size = w.heap.size + 1 by simp] at k6
 have k3 := blk_alloc (blk_new w (.cells #[.slice A0 l0.length c0, .slice A1 l1.length c1] 33)) (.cells #[.slice none 0 0, .map none, .slice none 0 0, .slice none 0 0, .slice none 0 0] 97)
 have B1 := Aside0.mk b1
 have K6 := Aside0.mk k6
 have K3 := Aside0.mk k3
 clear b1 k6 k3
 have hu97 := Try.underlying97
 have hu33 := Try.underlying33
 have hu56 := Try.underlying56
 have HM1 := Lib.hid hM1
 have HM := Lib.hid hM
 clear hM1 hM
 go_enter Try.func91, Try.ntmps91
 unfold reachM
 cases hg : goodB l0 l1 with
 | false =>
   rw [hg] at HC40
   simp only [Bool.false_eq_true, if_false]
   go_wp2_with (go_at_call 40; (refine (HC40.out _ B1.out).mono ?_; rintro e w2 ⟨rfl, hb⟩; have hk := blk_below K6.out hb; have h0 := blk_cell hk 0; have h1 := blk_cell hk 1; have h2 := blk_cell hk 2; have h3 := blk_cell hk 3; have h4 := blk_cell hk 4; have z0 := blk_frozen hk 0; have z1 := blk_frozen hk 1; have z2 := blk_frozen hk 2; have z3 := blk_frozen hk 3; have z4 := blk_frozen hk 4; simp at h0 h1 h2 h3 h4; have HK := Aside0.mk hk; have HB2 := Aside0.mk (B1.out.trans (hb.mono B1.out.size)); clear hb hk))
   have hz := blk_set (blk_set (blk_set (blk_set (blk_set HK.out 0 (.slice none 0 0)) 1 (.map none)) 2 (.slice none 0 0)) 3 (.slice none 0 0)) 4 (.slice none 0 0)
   have y0 := blk_cell hz 0
   have y1 := blk_cell hz 1
   have y2 := blk_cell hz 2
   have y3 := blk_cell hz 3
   have y4 := blk_cell hz 4
   clear h0 h1 h2 h3 h4 z0 z1 z2 z3 z4 hz
   generalize hWF : ((((w2.setCell ⟨w.heap.size + 1, 0, none⟩ (.slice none 0 0)).setCell ⟨w.heap.size + 1, 1, none⟩ (.map none)).setCell ⟨w.heap.size + 1, 2, none⟩ (.slice none 0 0)).setCell ⟨w.heap.size + 1, 3, none⟩ (.slice none 0 0)).setCell ⟨w.heap.size + 1, 4, none⟩ (.slice none 0 0) = WF at y0 y1 y2 y3 y4 ⊢
   simp at y0 y1 y2 y3 y4
   refine bodyPost_ret (v := .tuple #[.agg #[.slice none 0 0, .map none, .slice none 0 0, .slice none 0 0, .slice none 0 0], .bool false]) (by simp [results, Try.results91, go_sem, hu97, y0, y1, y2, y3, y4]) rfl ?_
   exact ⟨by rw [← hWF]; exact ((((HB2.out.setCell (by simp) _).setCell (by simp) _).setCell (by simp) _).setCell (by simp) _).setCell (by simp) _, rfl⟩
 | true =>
   rw [hg] at HC40
   simp only [if_true]
   have G := goodB_iff.1 hg
   have HG := Aside0.mk G
   clear hg
   generalize hR : iBfs l0 M cl 3001 0 (fgt (sStart l0 l1)) = RES
   have HR := Aside0.mk hR
   clear hR
   have HC109 : Hid (∀ W, Below w.heap.size w W → Calls Try.prog 109 #[.agg #[.slice A0 l0.length c0, .slice A1 l1.length c1]] W fun e w' => ∃ v0_ v1_ : Value, e = .returned (.agg #[v0_, v1_]) ∧ Kd.R (Kd.int .i64) 3 w' W.heap.size (fun k_ => some k_ ≠ (v1_ : Value).ownBlock) v0_ l0 ∧ Kd.R (Kd.int .i64) 3 w' W.heap.size (fun k_ => some k_ ≠ (v0_ : Value).ownBlock) v1_ l1 ∧ Below W.heap.size W w') := by
    intro W hW
    exact impl_Vessels_own.calls A0 c0 l0 A1 c1 l1 _ _ W (Kd.C_below hr0 hW) hc0 (Kd.C_below hr1 hW) hc1 (impl_own_eq (by have := G.n5; omega) (by have := G.n5; have := G.len; omega))
   have HC104 : Hid (∀ W, Below w.heap.size w W → Calls Try.prog 104 #[.agg #[.slice A0 l0.length c0, .slice A1 l1.length c1]] W fun e w' => e = .returned (.agg (keyCells l1)) ∧ Below W.heap.size W w') := by
    intro W hW
    exact impl_keyOf.calls _ A1 c1 l1 W rfl (Kd.C_below hr1 hW)
   clear hr0 hc0 hr1 hc1 G
   go_upto_region 3 with (go_at_call 40; (refine (HC40.out _ B1.out).mono ?_; rintro e w2 ⟨rfl, hb⟩; have hk := blk_below K3.out hb; have h0 := blk_cell hk 0; have h1 := blk_cell hk 1; simp at h0 h1; have hk6 := blk_below K6.out hb; have HK6 := Aside0.mk hk6; have HK3 := Aside0.mk hk; have HB2 := Aside0.mk (B1.out.trans (hb.mono B1.out.size)); clear hb hk hk6))
   clear h0 h1
   have HBW : Hid (∀ W, Below w2.heap.size w2 W → Below w.heap.size w W) := fun W hW => HB2.out.trans (hW.mono HB2.out.size)
   have HN6 := Aside0.mk (blk_lt HK6.out)
   go_cut [8] (fun s8 wx => ∃ g : Nat, s8 = .pointer (some ⟨g, 0, none⟩) ∧ Aside0 (Made3 w2 wx g l0 l1))
   case first =>
    refine start_ (n := 15) (S := fun w' => True) (ds := []) #[false, false, false, false, false, false, false, false, false, false, false, false, false, false, false] (by kernel_rfl) rfl rfl trivial (fun hHeld => ?_); refine with_tabW impl_reachOf.tab3 impl_reachOf.bits3 (fun HT_ HW_ => ?_)
    have hs3 : Below w2.heap.size w2 w2.drew := below_drew (Below.refl _ _)
    generalize w2.drew = wd at hs3 ⊢
    refine inv_at [0, 1, 2, 3, 4, 5, 6, 7, 8, 9, 10, 11, 12, 13, 14] (fun a0_ b a w' => ∃ (v0 v1 m7 m12 : Value) (c : Nat → Nat) (b21 b22 b26 b27 b29 b8 : Nat), a = putSel a0_ b [(0, 19, .agg #[.slice A0 l0.length c0, .slice A1 l1.length c1]), (1, 20, .agg #[v0, v1]), (2, 21, .slice (some ⟨b21, 0, none⟩) 1 1), (3, 22, .map (some b22)), (4, 23, .agg #[.slice A0 l0.length c0, .slice A1 l1.length c1]), (5, 24, .agg (keyCells l1)), (7, 25, m7), (8, 26, .slice (some ⟨b26, 0, none⟩) 1 1), (9, 27, .slice (some ⟨b27, 0, none⟩) 1 1), (10, 28, .agg #[.int .i64 0, .int .i64 0]), (11, 29, .slice (some ⟨b29, 0, none⟩) 1 1), (12, 30, m12), (13, 8, .pointer (some ⟨b8, 0, none⟩))] ∧ (b 14 = false → L3 w2 w' b c v0 v1 m7 m12 l0 l1 b21 b22 b26 b27 b29 b8) ∧ (b 14 = true → Made3 w2 w' b8 l0 l1)) HT_.out HW_.out (by kernel_rfl) (by kernel_rfl) ?_ ?_ ?_
    · exact ⟨.bool false, .bool false, .bool false, .bool false, fun k => if k < w2.heap.size then 0 else 6, 0, 0, 0, 0, 0, 0, by simp only [putSel, Bool.false_eq_true, if_false], fun _ => L3.start hs3, fun h => absurd h (by decide)⟩
    · skip
      clear hs3
      refine steps_cons ?_ ?_
      · rintro b a w' ⟨v0, v1, m7, m12, c, b21, b22, b26, b27, b29, b8, ha, hL, hE⟩ hb_ hon hoff
        refine ⟨_, rfl, fun K hK => ?_⟩
        have HL := hL (hoff 14 (by kernel_rfl))
        clear hL hE
        have e3 : a.tmps[3]? = some (.pointer (some ⟨w.heap.size, 0, none⟩)) := by rw [ha]; exact (putSel_off rfl).trans rfl
        replace ha := Aside0.mk ha
        have hk := blk_below HK3.out HL.bel
        have h0 := blk_cell hk 0
        have h1 := blk_cell hk 1
        simp at h0 h1
        clear hk
        refine value_ (w1 := w') (v := .agg #[.slice A0 l0.length c0, .slice A1 l1.length c1]) (by rfl) rfl ?_ ?_
        · go_simp
        refine hK.out _ _ ⟨v0, v1, m7, m12, c, b21, b22, b26, b27, b29, b8, (by rw [ha.out]; exact putSel_upk 0 hb_ rfl rfl rfl), fun _ => HL.nop0, fun h => absurd (((hoff 14 (by kernel_rfl))).symm.trans ((up_ne (by decide)).symm.trans h)) (by decide)⟩
      refine steps_cons ?_ ?_
      · rintro b a w' ⟨v0, v1, m7, m12, c, b21, b22, b26, b27, b29, b8, ha, hL, hE⟩ hb_ hon hoff
        refine ⟨_, rfl, fun K hK => ?_⟩
        have HL := hL (hoff 14 (by kernel_rfl))
        clear hL hE
        have e19 : a.tmps[19]? = some (.agg #[.slice A0 l0.length c0, .slice A1 l1.length c1]) := by rw [ha]; exact putSel_on (e := (0, 19, .agg #[.slice A0 l0.length c0, .slice A1 l1.length c1])) 0 rfl rfl (hon 0 (by kernel_rfl)) rfl
        replace ha := Aside0.mk ha
        refine goes_ Try.func109 (by kernel_rfl) rfl #[.agg #[.slice A0 l0.length c0, .slice A1 l1.length c1]] (by rfl) rfl rfl (by first | (simp only [List.map_toArray, List.map_cons, List.map_nil, Act.eval, Array.getD_eq_getD_getElem?, Option.getD_some, e19]; done) | (simp only [List.map_toArray, List.map_cons, List.map_nil, Act.eval, Array.getD_eq_getD_getElem?, Option.getD_some, e19]; rfl)) ?_
        refine (HC109.out _ (HBW.out _ HL.bel)).mono ?_
        rintro e w1 ⟨u0, u1, rfl, ho0, ho1, hb⟩
        obtain ⟨A4, c4, rfl⟩ := Kd.R_slice ho0
        obtain ⟨A5, c5, rfl⟩ := Kd.R_slice ho1
        refine ⟨_, rfl, ?_⟩
        refine hK.out _ _ ⟨_, _, m7, m12, _, b21, b22, b26, b27, b29, b8, (by rw [ha.out]; exact putSel_upk 1 hb_ rfl rfl rfl), fun _ => HL.add1 hb ho0 ho1, fun h => absurd (((hoff 14 (by kernel_rfl))).symm.trans ((up_ne (by decide)).symm.trans h)) (by decide)⟩
      refine steps_cons ?_ ?_
      · rintro b a w' ⟨v0, v1, m7, m12, c, b21, b22, b26, b27, b29, b8, ha, hL, hE⟩ hb_ hon hoff
        refine ⟨_, rfl, fun K hK => ?_⟩
        have HL := hL (hoff 14 (by kernel_rfl))
        clear hL hE
        have e20 : a.tmps[20]? = some (.agg #[v0, v1]) := by rw [ha]; exact putSel_on (e := (1, 20, .agg #[v0, v1])) 1 rfl rfl (hon 1 (by kernel_rfl)) rfl
        replace ha := Aside0.mk ha
        refine value_ (w1 := w'.alloc (.cells #[v0, v1] 33)) (v := .slice (some ⟨w'.heap.size, 0, none⟩) 1 1) (by rfl) rfl ?_ ?_
        · go_simp
        refine hK.out _ _ ⟨v0, v1, m7, m12, _, _, b22, b26, b27, b29, b8, (by rw [ha.out]; exact putSel_upk 2 hb_ rfl rfl rfl), fun _ => HL.add2 (hon 1 (by kernel_rfl)) (hoff 12 (by kernel_rfl)), fun h => absurd (((hoff 14 (by kernel_rfl))).symm.trans ((up_ne (by decide)).symm.trans h)) (by decide)⟩
      refine steps_cons ?_ ?_
      · rintro b a w' ⟨v0, v1, m7, m12, c, b21, b22, b26, b27, b29, b8, ha, hL, hE⟩ hb_ hon hoff
        refine ⟨_, rfl, fun K hK => ?_⟩
        have HL := hL (hoff 14 (by kernel_rfl))
        clear hL hE
        replace ha := Aside0.mk ha
        refine value_ (w1 := w'.alloc (.map #[] 0)) (v := .map (some w'.heap.size)) (by rfl) rfl ?_ ?_
        · first | rfl | go_simp
        refine hK.out _ _ ⟨v0, v1, m7, m12, _, b21, _, b26, b27, b29, b8, (by rw [ha.out]; exact putSel_upk 3 hb_ rfl rfl rfl), fun _ => HL.add3 (hoff 6 (by kernel_rfl)) (hoff 7 (by kernel_rfl)) (hoff 12 (by kernel_rfl)), fun h => absurd (((hoff 14 (by kernel_rfl))).symm.trans ((up_ne (by decide)).symm.trans h)) (by decide)⟩
      refine steps_cons ?_ ?_
      · rintro b a w' ⟨v0, v1, m7, m12, c, b21, b22, b26, b27, b29, b8, ha, hL, hE⟩ hb_ hon hoff
        refine ⟨_, rfl, fun K hK => ?_⟩
        have HL := hL (hoff 14 (by kernel_rfl))
        clear hL hE
        have e3 : a.tmps[3]? = some (.pointer (some ⟨w.heap.size, 0, none⟩)) := by rw [ha]; exact (putSel_off rfl).trans rfl
        replace ha := Aside0.mk ha
        have hk := blk_below HK3.out HL.bel
        have h0 := blk_cell hk 0
        have h1 := blk_cell hk 1
        simp at h0 h1
        clear hk
        refine value_ (w1 := w') (v := .agg #[.slice A0 l0.length c0, .slice A1 l1.length c1]) (by rfl) rfl ?_ ?_
        · go_simp
        refine hK.out _ _ ⟨v0, v1, m7, m12, c, b21, b22, b26, b27, b29, b8, (by rw [ha.out]; exact putSel_upk 4 hb_ rfl rfl rfl), fun _ => HL.nop4, fun h => absurd (((hoff 14 (by kernel_rfl))).symm.trans ((up_ne (by decide)).symm.trans h)) (by decide)⟩
      refine steps_cons ?_ ?_
      · rintro b a w' ⟨v0, v1, m7, m12, c, b21, b22, b26, b27, b29, b8, ha, hL, hE⟩ hb_ hon hoff
        refine ⟨_, rfl, fun K hK => ?_⟩
        have HL := hL (hoff 14 (by kernel_rfl))
        clear hL hE
        have e23 : a.tmps[23]? = some (.agg #[.slice A0 l0.length c0, .slice A1 l1.length c1]) := by rw [ha]; exact putSel_on (e := (4, 23, .agg #[.slice A0 l0.length c0, .slice A1 l1.length c1])) 4 rfl rfl (hon 4 (by kernel_rfl)) rfl
        replace ha := Aside0.mk ha
        refine goes_ Try.func104 (by kernel_rfl) rfl #[.agg #[.slice A0 l0.length c0, .slice A1 l1.length c1]] (by rfl) rfl rfl (by first | (simp only [List.map_toArray, List.map_cons, List.map_nil, Act.eval, Array.getD_eq_getD_getElem?, Option.getD_some, e23]; done) | (simp only [List.map_toArray, List.map_cons, List.map_nil, Act.eval, Array.getD_eq_getD_getElem?, Option.getD_some, e23]; rfl)) ?_
        refine (HC104.out _ (HBW.out _ HL.bel)).mono ?_
        rintro e w1 ⟨rfl, hb⟩
        refine ⟨_, rfl, ?_⟩
        refine hK.out _ _ ⟨v0, v1, m7, m12, _, b21, b22, b26, b27, b29, b8, (by rw [ha.out]; exact putSel_upk 5 hb_ rfl rfl rfl), fun _ => (HL.mv hb 6).nop5, fun h => absurd (((hoff 14 (by kernel_rfl))).symm.trans ((up_ne (by decide)).symm.trans h)) (by decide)⟩
      refine steps_cons ?_ ?_
      · rintro b a w' ⟨v0, v1, m7, m12, c, b21, b22, b26, b27, b29, b8, ha, hL, hE⟩ hb_ hon hoff
        refine ⟨_, rfl, fun K hK => ?_⟩
        have HL := hL (hoff 14 (by kernel_rfl))
        clear hL hE
        have e22 : a.tmps[22]? = some (.map (some b22)) := by rw [ha]; exact putSel_on (e := (3, 22, .map (some b22))) 3 rfl rfl (hon 3 (by kernel_rfl)) rfl
        have e24 : a.tmps[24]? = some (.agg (keyCells l1)) := by rw [ha]; exact putSel_on (e := (5, 24, .agg (keyCells l1))) 5 rfl rfl (hon 5 (by kernel_rfl)) rfl
        replace ha := Aside0.mk ha
        obtain ⟨w1, hrun, hO, hg⟩ := World.ownsMap.update (HL.f3 (hon 3 (by kernel_rfl)) hb_) keyed116 Try.underlying95 (by unfold maxLen; omega) (keyOf_key HG.out) (plainElem_int Try.underlying3 (by decide : (Lit.int .i64 0).wf = true))
        refine skip_ (w1 := w1) (by rfl) rfl ?_ ?_
        · simp [execOp, Act.eval, Array.getD_eq_getD_getElem?, e22, e24, hrun, Result.andThen]
        refine hK.out _ _ ⟨v0, v1, m7, m12, c, b21, b22, b26, b27, b29, b8, (by rw [ha.out]; exact putSel_none (v := undef) rfl), fun _ => HL.add6 (hon 3 (by kernel_rfl)) hg hO, fun h => absurd (((hoff 14 (by kernel_rfl))).symm.trans ((up_ne (by decide)).symm.trans h)) (by decide)⟩
      refine steps_cons ?_ ?_
      · rintro b a w' ⟨v0, v1, m7, m12, c, b21, b22, b26, b27, b29, b8, ha, hL, hE⟩ hb_ hon hoff
        refine ⟨_, rfl, fun K hK => ?_⟩
        have HL := hL (hoff 14 (by kernel_rfl))
        clear hL hE
        have e22 : a.tmps[22]? = some (.map (some b22)) := by rw [ha]; exact putSel_on (e := (3, 22, .map (some b22))) 3 rfl rfl (hon 3 (by kernel_rfl)) rfl
        replace ha := Aside0.mk ha
        refine value_ (w1 := w') (v := .map (some b22)) (by rfl) rfl ?_ ?_
        · go_simp
        refine hK.out _ _ ⟨v0, v1, _, m12, c, b21, b22, b26, b27, b29, b8, (by rw [ha.out]; exact putSel_upk 6 hb_ rfl rfl rfl), fun _ => HL.add7, fun h => absurd (((hoff 14 (by kernel_rfl))).symm.trans ((up_ne (by decide)).symm.trans h)) (by decide)⟩
      refine steps_cons ?_ ?_
      · rintro b a w' ⟨v0, v1, m7, m12, c, b21, b22, b26, b27, b29, b8, ha, hL, hE⟩ hb_ hon hoff
        refine ⟨_, rfl, fun K hK => ?_⟩
        have HL := hL (hoff 14 (by kernel_rfl))
        clear hL hE
        replace ha := Aside0.mk ha
        refine value_ (w1 := w'.alloc (.cells #[.int .i64 0] 3)) (v := .slice (some ⟨w'.heap.size, 0, none⟩) 1 1) (by rfl) rfl ?_ ?_
        · go_simp
        refine hK.out _ _ ⟨v0, v1, m7, m12, _, b21, b22, _, b27, b29, b8, (by rw [ha.out]; exact putSel_upk 7 hb_ rfl rfl rfl), fun _ => HL.add8 (hoff 12 (by kernel_rfl)), fun h => absurd (((hoff 14 (by kernel_rfl))).symm.trans ((up_ne (by decide)).symm.trans h)) (by decide)⟩
      refine steps_cons ?_ ?_
      · rintro b a w' ⟨v0, v1, m7, m12, c, b21, b22, b26, b27, b29, b8, ha, hL, hE⟩ hb_ hon hoff
        refine ⟨_, rfl, fun K hK => ?_⟩
        have HL := hL (hoff 14 (by kernel_rfl))
        clear hL hE
        replace ha := Aside0.mk ha
        refine value_ (w1 := w'.alloc (.cells #[.int .i64 (-1)] 3)) (v := .slice (some ⟨w'.heap.size, 0, none⟩) 1 1) (by rfl) rfl ?_ ?_
        · go_simp
        refine hK.out _ _ ⟨v0, v1, m7, m12, _, b21, b22, b26, _, b29, b8, (by rw [ha.out]; exact putSel_upk 8 hb_ rfl rfl rfl), fun _ => HL.add9 (hoff 12 (by kernel_rfl)), fun h => absurd (((hoff 14 (by kernel_rfl))).symm.trans ((up_ne (by decide)).symm.trans h)) (by decide)⟩
      refine steps_cons ?_ ?_
      · rintro b a w' ⟨v0, v1, m7, m12, c, b21, b22, b26, b27, b29, b8, ha, hL, hE⟩ hb_ hon hoff
        refine ⟨_, rfl, fun K hK => ?_⟩
        have HL := hL (hoff 14 (by kernel_rfl))
        clear hL hE
        replace ha := Aside0.mk ha
        refine value_ (w1 := w') (v := .agg #[.int .i64 0, .int .i64 0]) (by rfl) rfl ?_ ?_
        · go_simp
        refine hK.out _ _ ⟨v0, v1, m7, m12, c, b21, b22, b26, b27, b29, b8, (by rw [ha.out]; exact putSel_upk 9 hb_ rfl rfl rfl), fun _ => HL.nop10, fun h => absurd (((hoff 14 (by kernel_rfl))).symm.trans ((up_ne (by decide)).symm.trans h)) (by decide)⟩
      refine steps_cons ?_ ?_
      · rintro b a w' ⟨v0, v1, m7, m12, c, b21, b22, b26, b27, b29, b8, ha, hL, hE⟩ hb_ hon hoff
        refine ⟨_, rfl, fun K hK => ?_⟩
        have HL := hL (hoff 14 (by kernel_rfl))
        clear hL hE
        have e28 : a.tmps[28]? = some (.agg #[.int .i64 0, .int .i64 0]) := by rw [ha]; exact putSel_on (e := (10, 28, .agg #[.int .i64 0, .int .i64 0])) 9 rfl rfl (hon 10 (by kernel_rfl)) rfl
        replace ha := Aside0.mk ha
        refine value_ (w1 := w'.alloc (.cells #[.int .i64 0, .int .i64 0] 56)) (v := .slice (some ⟨w'.heap.size, 0, none⟩) 1 1) (by rfl) rfl ?_ ?_
        · go_simp
        refine hK.out _ _ ⟨v0, v1, m7, m12, _, b21, b22, b26, b27, _, b8, (by rw [ha.out]; exact putSel_upk 10 hb_ rfl rfl rfl), fun _ => HL.add11 (hoff 12 (by kernel_rfl)), fun h => absurd (((hoff 14 (by kernel_rfl))).symm.trans ((up_ne (by decide)).symm.trans h)) (by decide)⟩
      refine steps_cons ?_ ?_
      · rintro b a w' ⟨v0, v1, m7, m12, c, b21, b22, b26, b27, b29, b8, ha, hL, hE⟩ hb_ hon hoff
        refine ⟨_, rfl, fun K hK => ?_⟩
        have HL := hL (hoff 14 (by kernel_rfl))
        clear hL hE
        have e21 : a.tmps[21]? = some (.slice (some ⟨b21, 0, none⟩) 1 1) := by rw [ha]; exact putSel_on (e := (2, 21, .slice (some ⟨b21, 0, none⟩) 1 1)) 2 rfl rfl (hon 2 (by kernel_rfl)) rfl
        have e25 : a.tmps[25]? = some (m7) := by rw [ha]; exact putSel_on (e := (7, 25, m7)) 6 rfl rfl (hon 7 (by kernel_rfl)) rfl
        have e26 : a.tmps[26]? = some (.slice (some ⟨b26, 0, none⟩) 1 1) := by rw [ha]; exact putSel_on (e := (8, 26, .slice (some ⟨b26, 0, none⟩) 1 1)) 7 rfl rfl (hon 8 (by kernel_rfl)) rfl
        have e27 : a.tmps[27]? = some (.slice (some ⟨b27, 0, none⟩) 1 1) := by rw [ha]; exact putSel_on (e := (9, 27, .slice (some ⟨b27, 0, none⟩) 1 1)) 8 rfl rfl (hon 9 (by kernel_rfl)) rfl
        have e29 : a.tmps[29]? = some (.slice (some ⟨b29, 0, none⟩) 1 1) := by rw [ha]; exact putSel_on (e := (11, 29, .slice (some ⟨b29, 0, none⟩) 1 1)) 10 rfl rfl (hon 11 (by kernel_rfl)) rfl
        replace ha := Aside0.mk ha
        rw [HL.f7 (hon 7 (by kernel_rfl))] at e25
        refine value_ (w1 := w') (v := .agg #[.slice (some ⟨b21, 0, none⟩) 1 1, .map (some b22), .slice (some ⟨b26, 0, none⟩) 1 1, .slice (some ⟨b27, 0, none⟩) 1 1, .slice (some ⟨b29, 0, none⟩) 1 1]) (by rfl) rfl ?_ ?_
        · go_simp
        refine hK.out _ _ ⟨v0, v1, m7, _, c, b21, b22, b26, b27, b29, b8, (by rw [ha.out]; exact putSel_upk 11 hb_ rfl rfl rfl), fun _ => HL.add12, fun h => absurd (((hoff 14 (by kernel_rfl))).symm.trans ((up_ne (by decide)).symm.trans h)) (by decide)⟩
      refine steps_cons ?_ ?_
      · rintro b a w' ⟨v0, v1, m7, m12, c, b21, b22, b26, b27, b29, b8, ha, hL, hE⟩ hb_ hon hoff
        refine ⟨_, rfl, fun K hK => ?_⟩
        have HL := hL (hoff 14 (by kernel_rfl))
        clear hL hE
        replace ha := Aside0.mk ha
        refine value_ (w1 := w'.alloc (.cells z97 97)) (v := .pointer (some ⟨w'.heap.size, 0, none⟩)) (by rfl) rfl ?_ ?_
        · go_simp; try rfl
        refine hK.out _ _ ⟨v0, v1, m7, m12, _, b21, b22, b26, b27, b29, _, (by rw [ha.out]; exact putSel_upk 12 hb_ rfl rfl rfl), fun _ => HL.add13, fun h => absurd (((hoff 14 (by kernel_rfl))).symm.trans ((up_ne (by decide)).symm.trans h)) (by decide)⟩
      refine steps_cons ?_ ?_
      · rintro b a w' ⟨v0, v1, m7, m12, c, b21, b22, b26, b27, b29, b8, ha, hL, hE⟩ hb_ hon hoff
        refine ⟨_, rfl, fun K hK => ?_⟩
        have HL := hL hb_
        clear hL hE
        have e8 : a.tmps[8]? = some (.pointer (some ⟨b8, 0, none⟩)) := by rw [ha]; exact putSel_on (e := (13, 8, .pointer (some ⟨b8, 0, none⟩))) 12 rfl rfl (hon 13 (by kernel_rfl)) rfl
        have e30 : a.tmps[30]? = some (m12) := by rw [ha]; exact putSel_on (e := (12, 30, m12)) 11 rfl rfl (hon 12 (by kernel_rfl)) rfl
        replace ha := Aside0.mk ha
        rw [HL.f12 (hon 12 (by kernel_rfl))] at e30
        have M := HL.fin (hon 2 (by kernel_rfl)) (hon 3 (by kernel_rfl)) (hon 6 (by kernel_rfl)) (hon 8 (by kernel_rfl)) (hon 9 (by kernel_rfl)) (hon 11 (by kernel_rfl)) (hon 13 (by kernel_rfl))
        have h0 := blk_cell M.blk 0
        have h1 := blk_cell M.blk 1
        have h2 := blk_cell M.blk 2
        have h3 := blk_cell M.blk 3
        have h4 := blk_cell M.blk 4
        have z0 := blk_frozen M.blk 0
        have z1 := blk_frozen M.blk 1
        have z2 := blk_frozen M.blk 2
        have z3 := blk_frozen M.blk 3
        have z4 := blk_frozen M.blk 4
        simp [z97] at h0 h1 h2 h3 h4
        have HM := Aside0.mk M
        clear M HL
        refine skip_ (w1 := ((((w'.setCell ⟨b8, 0, none⟩ (.slice (some ⟨b21, 0, none⟩) 1 1)).setCell ⟨b8, 1, none⟩ (.map (some b22))).setCell ⟨b8, 2, none⟩ (.slice (some ⟨b26, 0, none⟩) 1 1)).setCell ⟨b8, 3, none⟩ (.slice (some ⟨b27, 0, none⟩) 1 1)).setCell ⟨b8, 4, none⟩ (.slice (some ⟨b29, 0, none⟩) 1 1)) (by rfl) rfl ?_ ?_
        · go_simp
        refine hK.out _ _ ⟨v0, v1, m7, m12, c, b21, b22, b26, b27, b29, b8, (by rw [ha.out]; exact putSel_none (v := undef) rfl), fun h => absurd ((up_self b 14).symm.trans h) (by decide), fun _ => HM.out.made⟩
      exact steps_nil
    · rintro b a w' hall ⟨v0, v1, m7, m12, c, b21, b22, b26, b27, b29, b8, ha, hL, hE⟩
      have hb0_ := hall 0 (by kernel_rfl)
      have hb1_ := hall 1 (by kernel_rfl)
      have hb2_ := hall 2 (by kernel_rfl)
      have hb3_ := hall 3 (by kernel_rfl)
      have hb4_ := hall 4 (by kernel_rfl)
      have hb5_ := hall 5 (by kernel_rfl)
      have hb6_ := hall 6 (by kernel_rfl)
      have hb7_ := hall 7 (by kernel_rfl)
      have hb8_ := hall 8 (by kernel_rfl)
      have hb9_ := hall 9 (by kernel_rfl)
      have hb10_ := hall 10 (by kernel_rfl)
      have hb11_ := hall 11 (by kernel_rfl)
      have hb12_ := hall 12 (by kernel_rfl)
      have hb13_ := hall 13 (by kernel_rfl)
      have hb14_ := hall 14 (by kernel_rfl)
      have HE3 := Aside0.mk (hE hb14_)
      clear hL hE
      subst ha
      simp only [putSel, hb0_, hb1_, hb2_, hb3_, hb4_, hb5_, hb6_, hb7_, hb8_, hb9_, hb10_, hb11_, hb12_, hb13_, hb14_, if_true, Act.put, List.setIfInBounds_toArray, List.set_cons_zero, List.set_cons_succ]
      clear hall hb0_ hb1_ hb2_ hb3_ hb4_ hb5_ hb6_ hb7_ hb8_ hb9_ hb10_ hb11_ hb12_ hb13_ hb14_
      go_wp2_with fail
      go_meet
      exact ⟨b8, rfl, HE3⟩
   case rest =>
    obtain ⟨g, rfl, HM3⟩ := hcut
    clear HK3 HC109 HC104 HC40
    have HI := Aside0.mk (IInv.of (SInv.start HG.out))
    have HH : Aside0 (∃ vl ls, HeldI w2 wc g l0 (fgt (sStart l0 l1)) vl ls) := ⟨by
     obtain ⟨c, b, va, vd, vf, vm, M0⟩ := HM3.out
     exact ⟨_, _, c, b, va, vd, vf, vm, 1, D1 l1, M0, KInv.start HG.out, Nat.le_refl _⟩⟩
    have hst : (fgt (sStart l0 l1)).all.length ≤ M := HM1.out
    have HST := Aside0.mk hst
    clear hst HM3
    go_wp2
    go_loopg [9] 3001 (fun gg s9 wr => ∃ (i : Nat) (r : Srch), s9 = .int .i64 i ∧ i ≤ 3000 ∧ 3001 - i ≤ gg ∧ r.all.length ≤ M ∧ Aside0 (iBfs l0 M cl gg i r = RES) ∧ Aside0 (IInv l0 r) ∧ Aside0 (∃ vl ls, HeldI w2 wr g l0 r vl ls))
    case atStart => exact ⟨0, _, rfl, by omega, by omega, HST.out, HR, HI, HH⟩
    case round =>
     clear HR HI HH HST
     obtain ⟨i, r, rfl, hi, hgg, hrM, HQ, HI, HH⟩ := hrel
     obtain ⟨vl, ls, HH1⟩ := HH.out
     clear HH
     obtain ⟨c, bm, va, vd, vf, vm, nD, D, M0, HK0, hn0⟩ := HH1
     have hb0 := blk_cell M0.blk 0
     simp at hb0
     obtain ⟨Aa, ca, rfl⟩ := Kd.N_slice M0.na
     have n2 := HI.out.n2
     by_cases hlt : i < r.all.length
     · have hltz : (i : Int) < (r.all.length : Int) := by omega
       obtain ⟨aa, B0, d0, B1, d1, ea, hy0, hy1, hd0, hz0, hd1, hz1⟩ := at_T33 (Kd.N_reads' M0.na).2.2 (i : Int) (by omega) (by omega)
       subst ea
       rw [Int.toNat_natCast] at hy0 hy1
       obtain ⟨ef0, Gi⟩ := HI.out.at_ (i := (i : Int)) (by omega) (by omega)
       have HGi := Aside0.mk Gi
       obtain ⟨k, hk⟩ := (impl_moves_ev Gi cl).rounds
       obtain ⟨n1, rfl⟩ : ∃ n1, gk = n1 + 1 := ⟨gk - 1, by omega⟩
       have hq := HQ.out
       rw [iBfs, if_pos hlt] at hq
       have HQ1 := Aside0.mk hq
       have HC103 : Hid (∀ W, Below wr.heap.size wr W → Calls Try.prog 103 #[.agg #[.slice B0 (rd_T33 r.all i).f0.length d0, .slice B1 (rd_T33 r.all i).f1.length d1], .bool cl] W fun e w' => ∃ v0_ : Value, e = .returned v0_ ∧ Kd.R k56 56 w' W.heap.size (fun _ => True) v0_ (movesP l0 (rd_T33 r.all i).f1 cl) ∧ Below W.heap.size W w') := by
        intro W hW
        exact impl_Vessels_moves.calls k B0 d0 _ B1 d1 _ cl _ W (Kd.C_below hz0 hW) hd0 (Kd.C_below hz1 hW) hd1 (by rw [ef0]; exact hk)
       have HMU := Aside0.mk (M0.upd 7)
       have HK0 := Aside0.mk HK0
       have HN0 := Lib.hid hn0
       have HRM := Lib.hid hrM
       clear hq HQ hk hd0 hz0 hd1 hz1 M0 hn0 hrM
       generalize hL : movesP l0 (rd_T33 r.all i).f1 cl = L at HQ1 HC103
       have HL := Aside0.mk hL
       have hLb : L.length ≤ 60 := by
        have h := movesP_length HGi.out cl
        rw [hL] at h
        omega
       clear hL
       generalize (rd_T33 r.all i).f0.length = q0 at hy0 HC103
       generalize (rd_T33 r.all i).f1.length = q1 at hy1 HC103
       go_wp2_with (go_at_call 103; refine (HC103.out _ (Below.refl _ _)).mono ?_; rintro e w1 ⟨vL, rfl, hRL, hb1⟩; obtain ⟨AL, cL, rfl⟩ := Kd.R_slice hRL)
       have HRL := Aside0.mk hRL
       have HB1 := Aside0.mk hb1
       clear hb0 hy0 hy1 hRL hb1
       go_loopg [46] L.length (fun gg s46 wi => ∃ (j : Nat) (r2 : Srch), s46 = .int .i64 j ∧ j ≤ L.length ∧ L.length - j ≤ gg ∧ i < r2.all.length ∧ r2.all.length ≤ M ∧ Aside0 (rd_T33 r2.all i = rd_T33 r.all i) ∧ Aside0 ((iVis l0 M i (L.drop j) r2).bind (iBfs l0 M cl n1 (i + 1)) = RES) ∧ Aside0 (IInv l0 r2) ∧ Aside0 (HeldI w2 wi g l0 r2 (.slice AL L.length cL) L))
       case atStart =>
        have HH := (HMU.out.below HB1.out).list (Kd.R_mono (Kd.R_lower (Kd.R_bound HRL.out) HMU.out.bel.size) (fun k hk => upd_ge hk.2.1))
        exact ⟨0, r, rfl, by omega, by omega, hlt, HRM.out, ⟨rfl⟩, HQ1, HI, ⟨_, _, _, _, _, _, _, _, HH, HK0.out, HN0.out⟩⟩
       case round =>
        clear HMU HB1 HRL HQ1 HI HC103 HK0 HN0 HRM
        obtain ⟨j, r2, rfl, hj, hgg2, hir, hrM, HX, HQ2, HI2, HH2⟩ := hrel
        have HRM := Lib.hid hrM
        clear hrM
        by_cases hjl : j < L.length
        · skip
          have hjz : (j : Int) < (L.length : Int) := by omega
          obtain ⟨c, bm, va, vd, vf, vm, nD, D, M0, HK0, hn0⟩ := HH2.out
          clear HH2
          obtain ⟨am, em, hm0, hm1⟩ := at_T56 (Kd.R_reads' M0.nl).2.2 (j : Int) (by omega) (by omega)
          subst em
          rw [Int.toNat_natCast] at hm0 hm1
          generalize hmm : rd_T56 L (j : Int) = m at hm0 hm1
          have HMV := Aside0.mk hmm
          clear hmm
          have hb0 := blk_cell M0.blk 0
          simp at hb0
          obtain ⟨Ab, cb, rfl⟩ := Kd.N_slice M0.na
          obtain ⟨ab, B2, d2, B3, d3, eb, hz0, hz1, he0, hf0, he1, hf1⟩ := at_T33 (Kd.N_reads' M0.na).2.2 (i : Int) (by omega) (by omega)
          subst eb
          rw [Int.toNat_natCast] at hz0 hz1
          rw [HX.out] at hz0 hz1 hf0 hf1 he0 he1
          have c9 : upd c wr.heap.size 8 wr.heap.size = 8 := upd_ge (Nat.le_refl _)
          have HMW := Aside0.mk ((M0.upd 8).below (below_alloc (Below.refl _ _) (.cells #[.int .i64 m.f0, .int .i64 m.f1] 56)))
          have C9 := Aside0.mk c9
          have HK0 := Aside0.mk HK0
          have HN0 := Lib.hid hn0
          clear c9 hn0
          have hmem : m ∈ L := by
           have h : rd_T56 L (j : Int) ∈ L := by
            unfold rd_T56
            rw [List.getD_eq_getElem?_getD, List.getElem?_eq_getElem (by omega : (j : Int).toNat < L.length)]
            exact List.getElem_mem _
           rwa [HMV.out] at h
          have hmv := (movesP_mem (HL.out ▸ hmem)).1
          have HMVV := Aside0.mk hmv
          have hi0 : (0 : Int) ≤ (i : Int) := by omega
          have hi1 : (i : Int) < (r2.all.length : Int) := by omega
          go_upto_region 10 with fail
          have b9 : Below wr.heap.size wr (wr.alloc (.cells #[.int .i64 m.f0, .int .i64 m.f1] 56)) := below_alloc (Below.refl _ _) _
          have k9 := blk_new wr (.cells #[.int .i64 m.f0, .int .i64 m.f1] 56)
          generalize wr.alloc (.cells #[.int .i64 m.f0, .int .i64 m.f1] 56) = W9 at HMW b9 k9 ⊢
          replace hb0 := pw_cell_below b9 hb0
          replace hz0 := pw_cell_below b9 hz0
          replace hz1 := pw_cell_below b9 hz1
          replace hf0 := Kd.C_below hf0 b9
          replace hf1 := Kd.C_below hf1 b9
          clear b9
          generalize wr.heap.size = n9 at HMW k9 C9 ⊢
          have hn0 := blk_cell k9 0
          have hn1 := blk_cell k9 1
          simp at hn0 hn1
          have K9 := Aside0.mk k9
          have HC105 : Hid (∀ W, Below W9.heap.size W9 W → Calls Try.prog 105 #[.agg #[.slice B2 (rd_T33 r.all i).f0.length d2, .slice B3 (rd_T33 r.all i).f1.length d3], .agg #[.int .i64 m.f0, .int .i64 m.f1]] W fun e w' => ∃ v0_ v1_ : Value, e = .returned (.agg #[v0_, v1_]) ∧ Kd.R (Kd.int .i64) 3 w' W9.heap.size (fun k_ => some k_ ≠ (v1_ : Value).ownBlock) v0_ l0 ∧ Kd.R (Kd.int .i64) 3 w' W9.heap.size (fun k_ => some k_ ≠ (v0_ : Value).ownBlock) v1_ (nxt l0 (rd_T33 r.all i) m) ∧ Below W.heap.size W w' ∧ Below W9.heap.size W9 w') := by
           intro W hW
           refine (impl_Vessels_behind.calls B2 d2 _ B3 d3 _ _ _ l0 _ W (Kd.C_below hf0 hW) he0 (Kd.C_below hf1 hW) he1 (by rw [ef0]; exact impl_behind_eq HGi.out hmv)).mono ?_
           rintro e w' ⟨v0, v1, rfl, h0, h1, h2⟩
           exact ⟨v0, v1, rfl, Kd.R_lower h0 hW.size, Kd.R_lower h1 hW.size, h2, below_step hW h2⟩
          clear M0 he0 he1
          generalize hnx : nxt l0 (rd_T33 r.all i) m = nx at HC105
          have HNX := Aside0.mk hnx
          clear hnx
          generalize (rd_T33 r.all i).f0.length = q2 at hz0 HC105
          generalize (rd_T33 r.all i).f1.length = q3 at hz1 HC105
          have ng : g ≠ W9.heap.size := Nat.ne_of_lt (World.block_lt_of_cell? W9 _ hb0)
          have na : (ab.add (i * 2)).block ≠ W9.heap.size := Nat.ne_of_lt (World.block_lt_of_cell? W9 _ hz0)
          have nn9 : n9 ≠ W9.heap.size := Nat.ne_of_lt (World.block_lt_of_cell? W9 _ hn0)
          clear k9 hmv hmem hf0 hf1
          go_cut [12] (fun s12 wx => ∃ (b10 : Nat) (A4 : Option Addr) (c4 : Nat) (A5 : Option Addr) (c5 : Nat), s12 = .pointer (some ⟨b10, 0, none⟩) ∧ Aside0 (MidI w2 wx g n9 b10 l0 r2.all r2.all r2.far r2.fr r2.ms (.slice (some am) L.length cL) L m nx A4 c4 A5 c5))
          case first =>
           go_region_held3 (fun w' => w'.cell? ⟨g, 0, none⟩ = some (.slice (some ab) r2.all.length cb) ∧ w'.cell? (ab.add (i * 2)) = some (.slice B2 q2 d2) ∧ w'.cell? ⟨(ab.add (i * 2)).block, (ab.add (i * 2)).off + 1, none⟩ = some (.slice B3 q3 d3) ∧ w'.cell? ⟨n9, 0, none⟩ = some (.int .i64 m.f0) ∧ w'.cell? ⟨n9, 1, none⟩ = some (.int .i64 m.f1))
            (first | exact ⟨hb0, hz0, hz1, hn0, hn1⟩ | exact ⟨pw_cell_below HB9.out hb0, pw_cell_below HB9.out hz0, pw_cell_below HB9.out hz1, pw_cell_below HB9.out hn0, pw_cell_below HB9.out hn1⟩ | exact ⟨cell_far (cell_far hm0_ ng) ng, cell_far (cell_far hm1_ na) na, cell_far (cell_far hm2_ na) na, cell_far (cell_far hm3_ nn9) nn9, cell_far (cell_far hm4_ nn9) nn9⟩ | go_keep)
            (first | (go_at_call 105; refine (HC105.out _ ?hbb).mono ?_; (case hbb => repeat (first | exact Below.refl _ _ | apply below_drew | apply below_alloc)); rintro e w5 ⟨v0, v1, rfl, hv0, hv1, hb2, hb3⟩; obtain ⟨A4, c4, rfl⟩ := Kd.R_slice hv0; obtain ⟨A5, c5, rfl⟩ := Kd.R_slice hv1; have hq0 := pw_cell_below (a := ⟨W9.heap.size, 0, none⟩) (v := .slice none 0 0) hb2; have hq1 := pw_cell_below (a := ⟨W9.heap.size, 1, none⟩) (v := .slice none 0 0) hb2; have hq2 := hb2.frozen (p := ⟨W9.heap.size, 0, none⟩); have hq3 := hb2.frozen (p := ⟨W9.heap.size, 1, none⟩); have HQB := fun h => blk_below (g := W9.heap.size) (o := .cells #[.slice none 0 0, .slice none 0 0] 33 (0, 0)) h hb2; have HV0 := Aside0.mk hv0; have HV1 := Aside0.mk hv1; have HB2x := Aside0.mk hb2; have HB9 := Aside0.mk hb3; have hm0_ := pw_cell_below hb3 hb0; have hm1_ := pw_cell_below hb3 hz0; have hm2_ := pw_cell_below hb3 hz1; have hm3_ := pw_cell_below hb3 hn0; have hm4_ := pw_cell_below hb3 hn1; clear hv0 hv1 hb2 hb3))
           all_goals (go_wp2_with fail; go_meet)
           all_goals first
            | (have hbw := below_step HMW.out.bel HB9.out
               exact ⟨w5.heap.size, A4, c4, A5, c5, rfl, ⟨midI_of HMW.out HK0.out HN0.out C9.out K9.out HB9.out HV0.out HV1.out HB9.out.size (fun k hlt _ => Below.heap_alloc w5 _ k hlt) (blk_new w5 _) (fun k hk => Nat.ne_of_lt (Kd.R_lt HV0.out k hk)) (fun k hk => Nat.ne_of_lt (Kd.R_lt HV1.out k hk)) (hbw.alloc hbw.size _)⟩⟩)
            | (have hz := HQB (blk_drew (blk_new W9 _))
               have hbw := below_step HMW.out.bel HB9.out
               exact ⟨W9.heap.size, A4, c4, A5, c5, rfl, ⟨midI_of HMW.out HK0.out HN0.out C9.out K9.out HB9.out HV0.out HV1.out (Nat.le_refl _) (fun k _ hne => (Below.heap_setCell _ _ _ k hne).trans (Below.heap_setCell _ _ _ k hne)) (by simpa using blk_set (blk_set hz 0 (.slice A4 l0.length c4)) 1 (.slice A5 nx.length c5)) (own_ne_of HV0.out hz (by decide)) (own_ne_of HV1.out hz (by decide)) ((hbw.setCell HMW.out.bel.size _).setCell HMW.out.bel.size _)⟩⟩)
          case rest =>
           obtain ⟨b10, A4, c4, A5, c5, rfl, HMID⟩ := hcut
           clear hb0 hz0 hz1 hn0 hn1 ng na nn9 HMW K9 C9 HC105 HK0 HN0
           have hG2 : Good l0 nx := by rw [← HNX.out]; exact beh_good HGi.out HMVV.out
           have HG2 := Aside0.mk hG2
           clear hG2
           obtain ⟨bm, nD, D, ⟨va, vd, vf, vm, hblk, Aa, ca, rfl⟩, hOM, hK, hnD, k10, ⟨_, hs4, hC4, hs5, hC5, _⟩, _, hnext⟩ := HMID.out.mapd
           have hm1 := blk_cell hblk 1
           simp at hm1
           have hp0 := blk_cell k10 0
           have hp1 := blk_cell k10 1
           simp at hp0 hp1
           have HC104 : Hid (∀ W, Below wc.heap.size wc W → Calls Try.prog 104 #[.agg #[.slice A4 l0.length c4, .slice A5 nx.length c5]] W fun e w' => e = .returned (.agg (keyCells nx)) ∧ Below W.heap.size W w') := by
            intro W hW
            exact impl_keyOf.calls _ A5 c5 nx W rfl (Kd.C_below hC5 hW)
           generalize hkc : keyCells nx = kc at HC104
           have hkey := keyOf_key HG2.out
           rw [hkc] at hkey
           have HKEY := Aside0.mk hkey
           have HLK : Hid (∀ W, Below wc.heap.size wc W → ∃ v : Int, (Instr.lookup 95 (.map (some bm)) (.agg kc) true).run Try.prog W = .ok (.tuple #[.int .i64 v, .bool (decide (∃ x ∈ r2.all, x.f1 = nx))]) W) := by
            intro W hW
            obtain ⟨v, ps, hrun, hv⟩ := (OM.below hOM hW).look_ok keyed116 Try.underlying95 (zero3 W) (plainElem_int Try.underlying3 (by decide : (Lit.int .i64 0).wf = true)) hkey
            obtain ⟨a, rfl, _, _⟩ := plainElem_int_inv Try.underlying3 hv
            exact ⟨a, by rw [← hK.knows nx HG2.out]; exact hrun⟩
           have HOM := Aside0.mk hOM
           have HKI := Aside0.mk hK
           have HND := Lib.hid hnD
           have HNXT := Lib.hid hnext
           have HS4 := Lib.hid hs4
           have HS5 := Lib.hid hs5
           have HC4 := Aside0.mk hC4
           have HC5 := Aside0.mk hC5
           have HBLK := Aside0.mk hblk
           have HDROP : Aside0 (L.drop j = m :: L.drop (j + 1)) := ⟨by
            rw [List.drop_eq_getElem_cons hjl]
            congr 1
            rw [← HMV.out]
            unfold rd_T56
            simp [List.getD_eq_getElem?_getD, List.getElem?_eq_getElem hjl]⟩
           clear hOM hK hnD hnext hs4 hs5 hC4 hC5 hblk k10 hkey hkc
           generalize hfd : decide (∃ x ∈ r2.all, x.f1 = nx) = fd at HLK
           have HFD := Aside0.mk hfd
           clear hfd
           go_upto_region 11 with fail
           go_cut [14] (fun s14 wx => s14 = .bool fd ∧ Aside0 (MidI w2 wx g n9 b10 l0 r2.all r2.all r2.far r2.fr r2.ms (.slice (some am) L.length cL) L m nx A4 c4 A5 c5))
           case first =>
            go_region_held3 (fun w' => w'.cell? ⟨g, 1, none⟩ = some (.map (some bm)) ∧ w'.cell? ⟨b10, 0, none⟩ = some (.slice A4 l0.length c4) ∧ w'.cell? ⟨b10, 1, none⟩ = some (.slice A5 nx.length c5))
             (first | exact ⟨hm1, hp0, hp1⟩ | exact ⟨pw_cell_below HB9.out hm1, pw_cell_below HB9.out hp0, pw_cell_below HB9.out hp1⟩ | go_keep)
             (first | (go_at_call 104; refine (HC104.out _ ?hbb).mono ?_; (case hbb => repeat (first | exact Below.refl _ _ | apply below_drew | apply below_alloc)); rintro e w5 ⟨rfl, hb2⟩; have HB9 := Aside0.mk (below_step (below_drew (Below.refl wc.heap.size wc)) hb2); obtain ⟨vv, hlk⟩ := HLK.out _ HB9.out; clear hb2))
            all_goals (go_wp2_with fail; go_meet)
            all_goals exact ⟨rfl, ⟨HMID.out.below HB9.out⟩⟩
           case rest =>
            obtain ⟨rfl, HMID2⟩ := hcut
            clear HMID hm1 hp0 hp1 HLK HC104 HOM HKI HND HNXT HS4 HS5 HC4 HC5 HBLK
            cases fd with
            | true =>
              have hex : ∃ x ∈ r2.all, x.f1 = nx := of_decide_eq_true HFD.out
              have HQ3 : Aside0 ((iVis l0 M i (L.drop (j + 1)) r2).bind (iBfs l0 M cl n1 (i + 1)) = RES) := ⟨by
               have h := HQ2.out
               rw [HDROP.out, iVis] at h
               simp only [HX.out, HNX.out] at h
               rw [if_pos hex] at h
               exact h⟩
              have HH3 : Aside0 (HeldI w2 wc g l0 r2 (.slice (some am) L.length cL) L) := ⟨HMID2.out.held⟩
              clear HMID2 hex
              have hm1 : j + 1 ≤ L.length := by omega
              have hm2 : L.length - (j + 1) ≤ L.length - (j + 1) := Nat.le_refl _
              go_wp2_with fail
              go_roundg (L.length - (j + 1))
              case measure => omega
              case rel => exact ⟨j + 1, r2, by go_num, hm1, hm2, hir, HRM.out, HX, HQ3, HI2, HH3⟩
            | false =>
              have hex : ¬ ∃ x ∈ r2.all, x.f1 = nx := of_decide_eq_false HFD.out
              have HEX := Aside0.mk hex
              obtain ⟨bm, nD, D, ⟨va, vd, vf, vm, hblk, Aa, ca, rfl⟩, hOM, hK, hnD, k10, ⟨_, hs4, hC4, hs5, hC5, _⟩, ⟨hgb, hbb⟩, hnext⟩ := HMID2.out.mapd
              have hb0 := blk_cell hblk 0
              have hm1 := blk_cell hblk 1
              simp at hb0 hm1
              have HQ2b := HQ2.out
              rw [HDROP.out, iVis] at HQ2b
              simp only [HX.out, HNX.out] at HQ2b
              rw [if_neg hex] at HQ2b
              clear hex HFD
              by_cases hbig : r2.all.length = M
              · have hbz : ((r2.all.length : Int) == (M : Int)) = true := by simp [hbig]
                rw [if_pos hbig, Option.bind_none] at HQ2b
                have HRES := Aside0.mk HQ2b
                clear HQ2b
                have hk6 := blk_below HK6.out HMID2.out.bel
                have h0 := blk_cell hk6 0
                have h1 := blk_cell hk6 1
                have h2 := blk_cell hk6 2
                have h3 := blk_cell hk6 3
                have h4 := blk_cell hk6 4
                have z0 := blk_frozen hk6 0
                have z1 := blk_frozen hk6 1
                have z2 := blk_frozen hk6 2
                have z3 := blk_frozen hk6 3
                have z4 := blk_frozen hk6 4
                simp at h0 h1 h2 h3 h4
                have hz := blk_set (blk_set (blk_set (blk_set (blk_set hk6 0 (.slice none 0 0)) 1 (.map none)) 2 (.slice none 0 0)) 3 (.slice none 0 0)) 4 (.slice none 0 0)
                clear hk6 hblk hOM hK hnD k10 hs4 hC4 hs5 hC5 hgb hbb hnext hbig
                have HBM := Aside0.mk (HBW.out _ HMID2.out.bel)
                clear HMID2
                go_wp2_with fail
                have y0 := blk_cell hz 0
                have y1 := blk_cell hz 1
                have y2 := blk_cell hz 2
                have y3 := blk_cell hz 3
                have y4 := blk_cell hz 4
                clear h0 h1 h2 h3 h4 z0 z1 z2 z3 z4 hz
                generalize hWF : ((((wc.setCell ⟨w.heap.size + 1, 0, none⟩ (.slice none 0 0)).setCell ⟨w.heap.size + 1, 1, none⟩ (.map none)).setCell ⟨w.heap.size + 1, 2, none⟩ (.slice none 0 0)).setCell ⟨w.heap.size + 1, 3, none⟩ (.slice none 0 0)).setCell ⟨w.heap.size + 1, 4, none⟩ (.slice none 0 0) = WF at y0 y1 y2 y3 y4 ⊢
                simp at y0 y1 y2 y3 y4
                refine bodyPost_ret (v := .tuple #[.agg #[.slice none 0 0, .map none, .slice none 0 0, .slice none 0 0, .slice none 0 0], .bool false]) (by simp [results, Try.results91, go_sem, hu97, y0, y1, y2, y3, y4]) rfl ?_
                exact ⟨by rw [← hWF]; exact ((((HBM.out.setCell (by simp) _).setCell (by simp) _).setCell (by simp) _).setCell (by simp) _).setCell (by simp) _, by rw [← HRES.out]⟩
              · have hbz : ((r2.all.length : Int) == (M : Int)) = false := by simpa using fun h : (r2.all.length : Int) = (M : Int) => hbig (by omega)
                rw [if_neg hbig] at HQ2b
                have HQ3 := Aside0.mk HQ2b
                have hlt2 : r2.all.length + 1 ≤ M := by have := HRM.out; omega
                have HLT2 := Lib.hid hlt2
                clear HQ2b hbig hlt2
                go_upto_region 15 with fail
                have hp0 := blk_cell k10 0
                have hp1 := blk_cell k10 1
                simp at hp0 hp1
                have HC104 : Hid (∀ W, Below wc.heap.size wc W → Calls Try.prog 104 #[.agg #[.slice A4 l0.length c4, .slice A5 nx.length c5]] W fun e w' => e = .returned (.agg (keyCells nx)) ∧ Below W.heap.size W w') := by
                 intro W hW
                 exact impl_keyOf.calls _ A5 c5 nx W rfl (Kd.C_below hC5 hW)
                generalize hkc : keyCells nx = kc at HC104
                have hkey := keyOf_key HG2.out
                rw [hkc] at hkey
                have hn2 := HI2.out.n2
                have HUP : Hid (∀ W, Below wc.heap.size wc W → ∃ w6, (Instr.mapUpdate 95 (.map (some bm)) (.agg kc) (.int .i64 (r2.all.length : Int))).run Try.prog W = .ok () w6 ∧ OM w6 bm (nD + 1) (D.put (kLit nx) (.lit (.int .i64 r2.all.length))) ∧ W.grownBy w6 (some bm)) := by
                 intro W hW
                 exact World.ownsMap.update (OM.below hOM hW) keyed116 Try.underlying95 (by unfold maxLen; omega) hkey (plainElem_int Try.underlying3 (by simp [Lit.wf, IntKind.min, IntKind.max, IntKind.signed, IntKind.bits]; omega))
                have HKN : Aside0 (KInv (D.put (kLit nx) (.lit (.int .i64 r2.all.length))) l0 (r2.all ++ [⟨l0, nx⟩])) := ⟨hK.add (World.ownsMap.isMap hOM) (x := ⟨l0, nx⟩) HG2.out (fun y hy => (HI2.out.good y hy).2) HEX.out⟩
                have HND : Hid (nD + 1 ≤ (r2.all ++ [(⟨l0, nx⟩ : S33)]).length) := by show nD + 1 ≤ _; rw [List.length_append, List.length_singleton]; omega
                have HNXT := Lib.hid hnext
                clear hblk hOM hK hnD hnext k10 hs4 hC4 hs5 hC5 hkey hkc hn2
                go_cut [] (fun wx => Aside0 (MidI w2 wx g n9 b10 l0 (r2.all ++ [⟨l0, nx⟩]) r2.all r2.far r2.fr r2.ms (.slice (some am) L.length cL) L m nx A4 c4 A5 c5))
                case first =>
                 go_region_held3 (fun w' => w'.cell? ⟨g, 0, none⟩ = some (.slice Aa r2.all.length ca) ∧ w'.cell? ⟨g, 1, none⟩ = some (.map (some bm)) ∧ w'.cell? ⟨b10, 0, none⟩ = some (.slice A4 l0.length c4) ∧ w'.cell? ⟨b10, 1, none⟩ = some (.slice A5 nx.length c5))
                  (first | exact ⟨hb0, hm1, hp0, hp1⟩ | exact ⟨pw_cell_below HB9.out hb0, pw_cell_below HB9.out hm1, pw_cell_below HB9.out hp0, pw_cell_below HB9.out hp1⟩ | exact ⟨cell_grown HG6.out (pw_cell_below HB9.out hb0) hgb, cell_grown HG6.out (pw_cell_below HB9.out hm1) hgb, cell_grown HG6.out (pw_cell_below HB9.out hp0) hbb, cell_grown HG6.out (pw_cell_below HB9.out hp1) hbb⟩ | go_keep)
                  (first | (go_at_call 104; refine (HC104.out _ ?hbb).mono ?_; (case hbb => repeat (first | exact Below.refl _ _ | apply below_drew | apply below_alloc)); rintro e w5 ⟨rfl, hb2⟩; have HB9 := Aside0.mk (below_step (below_drew (Below.refl wc.heap.size wc)) hb2); obtain ⟨w6, hup, hO6, hg6⟩ := HUP.out _ HB9.out; have HG6 := Aside0.mk hg6; have HO6 := Aside0.mk hO6; clear hb2 hg6 hO6))
                 all_goals (go_wp2_with fail; go_meet)
                 all_goals exact ⟨HNXT _ _ _ _ HO6.out (grown_of_below HB9.out HG6.out) HKN.out HND.out⟩
                case rest =>
                 clear HC104 HUP HKN HND HNXT hb0 hm1 hp0 hp1 hgb hbb HMID2
                 obtain ⟨cc, bm, va, vd, vf, vm, nD, D, M0, hK, hnD, h9, h10, k9, k10, hFK⟩ := hcut.out
                 clear hcut
                 obtain ⟨A6, c6, rfl⟩ := Kd.N_slice M0.na
                 obtain ⟨AF, c7, rfl⟩ := Kd.R_slice M0.nd
                 have hil : (i : Int) < (r2.far.length : Int) := by have := HI2.out.l3; omega
                 obtain ⟨aF, eF, _⟩ := Kd.at_int (Kd.R_reads' M0.nd).2.2 (i : Int) (by omega) hil
                 subst eF
                 have hf0 := (HI2.out.farr i (by omega) (by omega)).1
                 have hf1 := (HI2.out.farr i (by omega) (by omega)).2
                 have hwf : IntKind.i64.wrap (rd r2.far (i : Int) + 1) = rd r2.far (i : Int) + 1 := by have := HI2.out.n2; rw [IntKind.wrap_i64]; omega
                 generalize hfe : rd r2.far (i : Int) = f at hf0 hf1 hwf
                 have HFE := Aside0.mk hfe
                 have HWFR := Aside0.mk hwf
                 have HIF := Aside0.mk hil
                 have HIX := HIF
                 have MM := Aside0.mk M0
                 have H9 := Aside0.mk h9
                 have H10 := Aside0.mk h10
                 have K9 := Aside0.mk k9
                 have K10 := Aside0.mk k10
                 have HFK := Aside0.mk hFK
                 have HKI := Aside0.mk hK
                 have HND := Lib.hid hnD
                 have HLM := Aside0.mk (show (r2.all.length + 1) * 48 ≤ 140737488355328 by have := HI2.out.n2; omega)
                 have HLF := Aside0.mk (show (r2.far.length + 1) * 8 ≤ 140737488355328 by have := HI2.out.n2; have := HI2.out.l3; omega)
                 clear hfe hwf M0 h9 h10 k9 k10 hFK hK hnD hf0 hf1 hil
                 go_upto_region 16 with fail
                 go_cut [] (fun wx => Aside0 (MidJ w2 wx g n9 l0 (r2.all ++ [⟨l0, nx⟩]) (r2.all ++ [⟨l0, nx⟩]) (r2.far ++ [f + 1]) r2.fr r2.ms (.slice (some am) L.length cL) L m))
                 case first =>
                  refine start_ (n := 19) (S := fun w' => True) (ds := []) #[false, false, false, false, false, false, false, false, false, false, false, false, false, false, false, false, false, false, false] (by kernel_rfl) rfl rfl trivial (fun hHeld => ?_); refine with_tabW impl_reachOf.tab16 impl_reachOf.bits16 (fun HT_ HW_ => ?_)
                  have hs := below_drew (Below.refl wc.heap.size wc)
                  generalize wc.drew = wd at hs ⊢
                  refine inv_at [0, 1, 2, 3, 4, 5, 6, 7, 8, 9, 10, 11, 12, 13, 14, 15, 16, 17, 18] (fun a0_ b a w' => ∃ (c : Nat → Nat) (va : Value) (vd : Value) (x0 : Value) (x2 : Value) (all : List S33) (far : List Int) (b82 : Nat) (b92 : Nat), a = putSel a0_ b [(0, 79, .pointer (some ⟨g, 0, none⟩)), (1, 80, .slice A6 r2.all.length c6), (2, 81, .agg #[.slice A4 l0.length c4, .slice A5 nx.length c5]), (3, 82, .slice (some ⟨b82, 0, none⟩) 1 1), (4, 83, va), (5, 84, .pointer (some ⟨g, 2, none⟩)), (6, 85, .slice (some aF) r2.far.length c7), (7, 86, .pointer (some ⟨g, 2, none⟩)), (8, 87, .slice (some aF) r2.far.length c7), (9, 88, .int .i64 (i : Int)), (10, 89, .pointer (some (aF.add i))), (11, 90, .int .i64 f), (12, 91, .int .i64 (f + 1)), (13, 92, .slice (some ⟨b92, 0, none⟩) 1 1), (14, 93, vd), (15, 94, .pointer (some ⟨g, 0, none⟩)), (17, 95, .pointer (some ⟨g, 2, none⟩))] ∧ S16 w2 w' b g bm n9 b10 c (.slice A6 r2.all.length c6) (.slice (some aF) r2.far.length c7) va vd x0 x2 vf vm (.slice (some am) L.length cL) r2.all r2.far all far r2.fr r2.ms L nD D m l0 nx A4 c4 A5 c5 b82 b92 f) HT_.out HW_.out (by kernel_rfl) (by kernel_rfl) ?_ ?_ ?_
                  · exact ⟨cc, .slice A6 r2.all.length c6, .slice (some aF) r2.far.length c7, .slice A6 r2.all.length c6, .slice (some aF) r2.far.length c7, r2.all, r2.far, 0, 0, by simp only [putSel, Bool.false_eq_true, if_false], S16.start (MM.out.below hs) H9.out (blk_below K9.out hs) H10.out (blk_below K10.out hs) (Kd.FK_below HFK.out hs)⟩
                  · skip
                    clear hs
                    refine steps_cons ?_ ?_
                    · rintro b a w' ⟨c, va, vd, x0, x2, all, far, b82, b92, ha, HL⟩ hb_ hon hoff
                      refine ⟨_, rfl, fun K hK => ?_⟩
                      have e8 : a.tmps[8]? = some (.pointer (some ⟨g, 0, none⟩)) := by rw [ha]; exact (putSel_off rfl).trans rfl
                      replace ha := Aside0.mk ha
                      refine value_ (w1 := w') (v := .pointer (some ⟨g, 0, none⟩)) (by rfl) rfl ?_ ?_
                      · go_simp
                        try rfl
                      refine hK.out _ _ ⟨c, va, vd, x0, x2, all, far, b82, b92, (by rw [ha.out]; exact putSel_upk 0 hb_ rfl rfl rfl), HL.nop0⟩
                    refine steps_cons ?_ ?_
                    · rintro b a w' ⟨c, va, vd, x0, x2, all, far, b82, b92, ha, HL⟩ hb_ hon hoff
                      refine ⟨_, rfl, fun K hK => ?_⟩
                      have e79 : a.tmps[79]? = some (.pointer (some ⟨g, 0, none⟩)) := by rw [ha]; exact putSel_on (e := (0, 79, .pointer (some ⟨g, 0, none⟩))) 0 rfl rfl (hon 0 (by kernel_rfl)) rfl
                      replace ha := Aside0.mk ha
                      have h0 := blk_cell HL.mem.blk 0
                      simp at h0
                      rw [HL.s16 (hoff 16 (by kernel_rfl))] at h0
                      refine value_ (w1 := w') (v := .slice A6 r2.all.length c6) (by rfl) rfl ?_ ?_
                      · go_simp
                        try rfl
                      refine hK.out _ _ ⟨c, va, vd, x0, x2, all, far, b82, b92, (by rw [ha.out]; exact putSel_upk 1 hb_ rfl rfl rfl), HL.nop1⟩
                    refine steps_cons ?_ ?_
                    · rintro b a w' ⟨c, va, vd, x0, x2, all, far, b82, b92, ha, HL⟩ hb_ hon hoff
                      refine ⟨_, rfl, fun K hK => ?_⟩
                      have e12 : a.tmps[12]? = some (.pointer (some ⟨b10, 0, none⟩)) := by rw [ha]; exact (putSel_off rfl).trans rfl
                      replace ha := Aside0.mk ha
                      have h0 := blk_cell HL.k10 0
                      have h1 := blk_cell HL.k10 1
                      simp at h0 h1
                      refine value_ (w1 := w') (v := .agg #[.slice A4 l0.length c4, .slice A5 nx.length c5]) (by rfl) rfl ?_ ?_
                      · go_simp
                        try rfl
                      refine hK.out _ _ ⟨c, va, vd, x0, x2, all, far, b82, b92, (by rw [ha.out]; exact putSel_upk 2 hb_ rfl rfl rfl), HL.nop2⟩
                    refine steps_cons ?_ ?_
                    · rintro b a w' ⟨c, va, vd, x0, x2, all, far, b82, b92, ha, HL⟩ hb_ hon hoff
                      refine ⟨_, rfl, fun K hK => ?_⟩
                      have e81 : a.tmps[81]? = some (.agg #[.slice A4 l0.length c4, .slice A5 nx.length c5]) := by rw [ha]; exact putSel_on (e := (2, 81, .agg #[.slice A4 l0.length c4, .slice A5 nx.length c5])) 2 rfl rfl (hon 2 (by kernel_rfl)) rfl
                      replace ha := Aside0.mk ha
                      refine value_ (w1 := w'.alloc (.cells #[.slice A4 l0.length c4, .slice A5 nx.length c5] 33)) (v := .slice (some ⟨w'.heap.size, 0, none⟩) 1 1) (by rfl) rfl ?_ ?_
                      · go_simp
                      refine hK.out _ _ ⟨_, va, vd, x0, x2, all, far, _, b92, (by rw [ha.out]; exact putSel_upk 3 hb_ rfl rfl rfl), HL.add3 (hoff 4 (by kernel_rfl))⟩
                    refine steps_cons ?_ ?_
                    · rintro b a w' ⟨c, va, vd, x0, x2, all, far, b82, b92, ha, HL⟩ hb_ hon hoff
                      refine ⟨_, rfl, fun K hK => ?_⟩
                      have e80 : a.tmps[80]? = some (.slice A6 r2.all.length c6) := by rw [ha]; exact putSel_on (e := (1, 80, .slice A6 r2.all.length c6)) 1 rfl rfl (hon 1 (by kernel_rfl)) rfl
                      have e82 : a.tmps[82]? = some (.slice (some ⟨b82, 0, none⟩) 1 1) := by rw [ha]; exact putSel_on (e := (3, 82, .slice (some ⟨b82, 0, none⟩) 1 1)) 3 rfl rfl (hon 3 (by kernel_rfl)) rfl
                      replace ha := Aside0.mk ha
                      obtain ⟨ok, ev, hN, hfr, hFK, hokb, hneb, hkb, hbw, hnext⟩ := HL.row4 (hon 3 (by kernel_rfl)) hb_ (hoff 14 (by kernel_rfl)) (hoff 16 (by kernel_rfl))
                      subst ev
                      refine N_app_at k33 (w0 := w2) (W := w') w2.heap.size (by rfl) (.tmp 80) (.tmp 82) 46 33 (.agg #[.slice none 0 0, .slice none 0 0]) 48 (by rfl) Try.underlying46 info33 rfl (by decide) (by omega) (.slice A6 r2.all.length c6) r2.all ⟨l0, nx⟩ [.slice A4 l0.length c4, .slice A5 nx.length c5] ok b82 (eval_of e80) (eval_of e82) hN hfr hFK hokb hneb hbw hbw.size HLM.out hkb ?_
                      intro v1 w1 ho hb hg hat
                      refine hK.out _ _ ⟨_, v1, vd, x0, x2, _, far, b82, b92, (by rw [ha.out]; exact putSel_upk 4 hb_ rfl rfl rfl), hnext v1 w1 ho hb hg hat⟩
                    refine steps_cons ?_ ?_
                    · rintro b a w' ⟨c, va, vd, x0, x2, all, far, b82, b92, ha, HL⟩ hb_ hon hoff
                      refine ⟨_, rfl, fun K hK => ?_⟩
                      have e8 : a.tmps[8]? = some (.pointer (some ⟨g, 0, none⟩)) := by rw [ha]; exact (putSel_off rfl).trans rfl
                      replace ha := Aside0.mk ha
                      refine value_ (w1 := w') (v := .pointer (some ⟨g, 2, none⟩)) (by rfl) rfl ?_ ?_
                      · go_simp
                        try rfl
                      refine hK.out _ _ ⟨c, va, vd, x0, x2, all, far, b82, b92, (by rw [ha.out]; exact putSel_upk 5 hb_ rfl rfl rfl), HL.nop5⟩
                    refine steps_cons ?_ ?_
                    · rintro b a w' ⟨c, va, vd, x0, x2, all, far, b82, b92, ha, HL⟩ hb_ hon hoff
                      refine ⟨_, rfl, fun K hK => ?_⟩
                      have e84 : a.tmps[84]? = some (.pointer (some ⟨g, 2, none⟩)) := by rw [ha]; exact putSel_on (e := (5, 84, .pointer (some ⟨g, 2, none⟩))) 5 rfl rfl (hon 5 (by kernel_rfl)) rfl
                      replace ha := Aside0.mk ha
                      have h0 := blk_cell HL.mem.blk 2
                      simp at h0
                      rw [HL.s18 (hoff 18 (by kernel_rfl))] at h0
                      refine value_ (w1 := w') (v := .slice (some aF) r2.far.length c7) (by rfl) rfl ?_ ?_
                      · go_simp
                        try rfl
                      refine hK.out _ _ ⟨c, va, vd, x0, x2, all, far, b82, b92, (by rw [ha.out]; exact putSel_upk 6 hb_ rfl rfl rfl), HL.nop6⟩
                    refine steps_cons ?_ ?_
                    · rintro b a w' ⟨c, va, vd, x0, x2, all, far, b82, b92, ha, HL⟩ hb_ hon hoff
                      refine ⟨_, rfl, fun K hK => ?_⟩
                      have e8 : a.tmps[8]? = some (.pointer (some ⟨g, 0, none⟩)) := by rw [ha]; exact (putSel_off rfl).trans rfl
                      replace ha := Aside0.mk ha
                      refine value_ (w1 := w') (v := .pointer (some ⟨g, 2, none⟩)) (by rfl) rfl ?_ ?_
                      · go_simp
                        try rfl
                      refine hK.out _ _ ⟨c, va, vd, x0, x2, all, far, b82, b92, (by rw [ha.out]; exact putSel_upk 7 hb_ rfl rfl rfl), HL.nop7⟩
                    refine steps_cons ?_ ?_
                    · rintro b a w' ⟨c, va, vd, x0, x2, all, far, b82, b92, ha, HL⟩ hb_ hon hoff
                      refine ⟨_, rfl, fun K hK => ?_⟩
                      have e86 : a.tmps[86]? = some (.pointer (some ⟨g, 2, none⟩)) := by rw [ha]; exact putSel_on (e := (7, 86, .pointer (some ⟨g, 2, none⟩))) 7 rfl rfl (hon 7 (by kernel_rfl)) rfl
                      replace ha := Aside0.mk ha
                      have h0 := blk_cell HL.mem.blk 2
                      simp at h0
                      rw [HL.s18 (hoff 18 (by kernel_rfl))] at h0
                      refine value_ (w1 := w') (v := .slice (some aF) r2.far.length c7) (by rfl) rfl ?_ ?_
                      · go_simp
                        try rfl
                      refine hK.out _ _ ⟨c, va, vd, x0, x2, all, far, b82, b92, (by rw [ha.out]; exact putSel_upk 8 hb_ rfl rfl rfl), HL.nop8⟩
                    refine steps_cons ?_ ?_
                    · rintro b a w' ⟨c, va, vd, x0, x2, all, far, b82, b92, ha, HL⟩ hb_ hon hoff
                      refine ⟨_, rfl, fun K hK => ?_⟩
                      have e9 : a.tmps[9]? = some (.int .i64 (i : Int)) := by rw [ha]; exact (putSel_off rfl).trans rfl
                      replace ha := Aside0.mk ha
                      refine value_ (w1 := w') (v := .int .i64 (i : Int)) (by rfl) rfl ?_ ?_
                      · go_simp
                        try rfl
                      refine hK.out _ _ ⟨c, va, vd, x0, x2, all, far, b82, b92, (by rw [ha.out]; exact putSel_upk 9 hb_ rfl rfl rfl), HL.nop9⟩
                    refine steps_cons ?_ ?_
                    · rintro b a w' ⟨c, va, vd, x0, x2, all, far, b82, b92, ha, HL⟩ hb_ hon hoff
                      refine ⟨_, rfl, fun K hK => ?_⟩
                      have e87 : a.tmps[87]? = some (.slice (some aF) r2.far.length c7) := by rw [ha]; exact putSel_on (e := (8, 87, .slice (some aF) r2.far.length c7)) 8 rfl rfl (hon 8 (by kernel_rfl)) rfl
                      have e88 : a.tmps[88]? = some (.int .i64 (i : Int)) := by rw [ha]; exact putSel_on (e := (9, 88, .int .i64 (i : Int))) 9 rfl rfl (hon 9 (by kernel_rfl)) rfl
                      replace ha := Aside0.mk ha
                      have hx := HIX.out
                      refine value_ (w1 := w') (v := .pointer (some (aF.add i))) (by rfl) rfl ?_ ?_
                      · go_simp
                        try rfl
                      refine hK.out _ _ ⟨c, va, vd, x0, x2, all, far, b82, b92, (by rw [ha.out]; exact putSel_upk 10 hb_ rfl rfl rfl), HL.nop10⟩
                    refine steps_cons ?_ ?_
                    · rintro b a w' ⟨c, va, vd, x0, x2, all, far, b82, b92, ha, HL⟩ hb_ hon hoff
                      refine ⟨_, rfl, fun K hK => ?_⟩
                      have e89 : a.tmps[89]? = some (.pointer (some (aF.add i))) := by rw [ha]; exact putSel_on (e := (10, 89, .pointer (some (aF.add i)))) 10 rfl rfl (hon 10 (by kernel_rfl)) rfl
                      replace ha := Aside0.mk ha
                      have hq := HL.a14 (hoff 14 (by kernel_rfl))
                      have hR := HL.mem.nd
                      rw [hq.1, hq.2] at hR
                      obtain ⟨aF', eF', h0⟩ := Kd.at_int (Kd.R_reads' hR).2.2 (i : Int) (by omega) HIF.out
                      obtain rfl := Option.some.inj eF'
                      rw [Int.toNat_natCast, HFE.out] at h0
                      clear hR hq
                      refine value_ (w1 := w') (v := .int .i64 f) (by rfl) rfl ?_ ?_
                      · go_simp
                        try rfl
                      refine hK.out _ _ ⟨c, va, vd, x0, x2, all, far, b82, b92, (by rw [ha.out]; exact putSel_upk 11 hb_ rfl rfl rfl), HL.nop11⟩
                    refine steps_cons ?_ ?_
                    · rintro b a w' ⟨c, va, vd, x0, x2, all, far, b82, b92, ha, HL⟩ hb_ hon hoff
                      refine ⟨_, rfl, fun K hK => ?_⟩
                      have e90 : a.tmps[90]? = some (.int .i64 f) := by rw [ha]; exact putSel_on (e := (11, 90, .int .i64 f)) 11 rfl rfl (hon 11 (by kernel_rfl)) rfl
                      replace ha := Aside0.mk ha
                      have HWF := HWFR.out
                      refine value_ (w1 := w') (v := .int .i64 (f + 1)) (by rfl) rfl ?_ ?_
                      · go_simp
                        try rfl
                      refine hK.out _ _ ⟨c, va, vd, x0, x2, all, far, b82, b92, (by rw [ha.out]; exact putSel_upk 12 hb_ rfl rfl rfl), HL.nop12⟩
                    refine steps_cons ?_ ?_
                    · rintro b a w' ⟨c, va, vd, x0, x2, all, far, b82, b92, ha, HL⟩ hb_ hon hoff
                      refine ⟨_, rfl, fun K hK => ?_⟩
                      have e91 : a.tmps[91]? = some (.int .i64 (f + 1)) := by rw [ha]; exact putSel_on (e := (12, 91, .int .i64 (f + 1))) 12 rfl rfl (hon 12 (by kernel_rfl)) rfl
                      replace ha := Aside0.mk ha
                      refine value_ (w1 := w'.alloc (.cells #[.int .i64 (f + 1)] 3)) (v := .slice (some ⟨w'.heap.size, 0, none⟩) 1 1) (by rfl) rfl ?_ ?_
                      · go_simp
                      refine hK.out _ _ ⟨_, va, vd, x0, x2, all, far, b82, _, (by rw [ha.out]; exact putSel_upk 13 hb_ rfl rfl rfl), HL.add13⟩
                    refine steps_cons ?_ ?_
                    · rintro b a w' ⟨c, va, vd, x0, x2, all, far, b82, b92, ha, HL⟩ hb_ hon hoff
                      refine ⟨_, rfl, fun K hK => ?_⟩
                      have e85 : a.tmps[85]? = some (.slice (some aF) r2.far.length c7) := by rw [ha]; exact putSel_on (e := (6, 85, .slice (some aF) r2.far.length c7)) 6 rfl rfl (hon 6 (by kernel_rfl)) rfl
                      have e92 : a.tmps[92]? = some (.slice (some ⟨b92, 0, none⟩) 1 1) := by rw [ha]; exact putSel_on (e := (13, 92, .slice (some ⟨b92, 0, none⟩) 1 1)) 13 rfl rfl (hon 13 (by kernel_rfl)) rfl
                      replace ha := Aside0.mk ha
                      obtain ⟨ok, ev, hN, hfr, hkb, hbw, hnext⟩ := HL.row14 (hon 4 (by kernel_rfl)) (hon 13 (by kernel_rfl)) hb_ (hoff 18 (by kernel_rfl))
                      subst ev
                      refine R_app_step (Kd.int .i64) (w0 := w2) (w4 := w') (W := w') w2.heap.size (by rfl) (.tmp 85) (.tmp 92) 28 3 (.int .i64 0) 8 (by rfl) Try.underlying28 info3 rfl (by decide) (by omega) (.slice (some aF) r2.far.length c7) r2.far (f + 1) [.int .i64 (f + 1)] ok b92 (eval_of e85) (eval_of e92) hN hfr (fun _ _ => rfl) hbw hbw.size HLF.out (Below.refl _ _) hkb ?_
                      intro v1 w1 ho hb hg
                      refine hK.out _ _ ⟨_, va, v1, x0, x2, all, _, b82, b92, (by rw [ha.out]; exact putSel_upk 14 hb_ rfl rfl rfl), hnext v1 w1 ho hb hg⟩
                    refine steps_cons ?_ ?_
                    · rintro b a w' ⟨c, va, vd, x0, x2, all, far, b82, b92, ha, HL⟩ hb_ hon hoff
                      refine ⟨_, rfl, fun K hK => ?_⟩
                      have e8 : a.tmps[8]? = some (.pointer (some ⟨g, 0, none⟩)) := by rw [ha]; exact (putSel_off rfl).trans rfl
                      replace ha := Aside0.mk ha
                      refine value_ (w1 := w') (v := .pointer (some ⟨g, 0, none⟩)) (by rfl) rfl ?_ ?_
                      · go_simp
                        try rfl
                      refine hK.out _ _ ⟨c, va, vd, x0, x2, all, far, b82, b92, (by rw [ha.out]; exact putSel_upk 15 hb_ rfl rfl rfl), HL.nop15⟩
                    refine steps_cons ?_ ?_
                    · rintro b a w' ⟨c, va, vd, x0, x2, all, far, b82, b92, ha, HL⟩ hb_ hon hoff
                      refine ⟨_, rfl, fun K hK => ?_⟩
                      have e94 : a.tmps[94]? = some (.pointer (some ⟨g, 0, none⟩)) := by rw [ha]; exact putSel_on (e := (15, 94, .pointer (some ⟨g, 0, none⟩))) 15 rfl rfl (hon 15 (by kernel_rfl)) rfl
                      have e83 : a.tmps[83]? = some (va) := by rw [ha]; exact putSel_on (e := (4, 83, va)) 4 rfl rfl (hon 4 (by kernel_rfl)) rfl
                      replace ha := Aside0.mk ha
                      have h0 := blk_cell HL.mem.blk 0
                      have z0 := blk_frozen HL.mem.blk 0
                      simp at h0
                      obtain ⟨Av, cv, hv⟩ := Kd.N_slice HL.mem.na
                      rw [hv] at e83
                      refine skip_ (w1 := w'.setCell ⟨g, 0, none⟩ va) (by rfl) rfl ?_ ?_
                      · rw [hv]; go_simp
                      refine hK.out _ _ ⟨c, va, vd, va, x2, all, far, b82, b92, (by rw [ha.out]; exact putSel_none (v := undef) rfl), HL.st16 (hon 4 (by kernel_rfl)) (hon 14 (by kernel_rfl))⟩
                    refine steps_cons ?_ ?_
                    · rintro b a w' ⟨c, va, vd, x0, x2, all, far, b82, b92, ha, HL⟩ hb_ hon hoff
                      refine ⟨_, rfl, fun K hK => ?_⟩
                      have e8 : a.tmps[8]? = some (.pointer (some ⟨g, 0, none⟩)) := by rw [ha]; exact (putSel_off rfl).trans rfl
                      replace ha := Aside0.mk ha
                      refine value_ (w1 := w') (v := .pointer (some ⟨g, 2, none⟩)) (by rfl) rfl ?_ ?_
                      · go_simp
                        try rfl
                      refine hK.out _ _ ⟨c, va, vd, x0, x2, all, far, b82, b92, (by rw [ha.out]; exact putSel_upk 16 hb_ rfl rfl rfl), HL.nop17⟩
                    refine steps_cons ?_ ?_
                    · rintro b a w' ⟨c, va, vd, x0, x2, all, far, b82, b92, ha, HL⟩ hb_ hon hoff
                      refine ⟨_, rfl, fun K hK => ?_⟩
                      have e95 : a.tmps[95]? = some (.pointer (some ⟨g, 2, none⟩)) := by rw [ha]; exact putSel_on (e := (17, 95, .pointer (some ⟨g, 2, none⟩))) 16 rfl rfl (hon 17 (by kernel_rfl)) rfl
                      have e93 : a.tmps[93]? = some (vd) := by rw [ha]; exact putSel_on (e := (14, 93, vd)) 14 rfl rfl (hon 14 (by kernel_rfl)) rfl
                      replace ha := Aside0.mk ha
                      have h0 := blk_cell HL.mem.blk 2
                      have z0 := blk_frozen HL.mem.blk 2
                      simp at h0
                      obtain ⟨Av, cv, hv⟩ := Kd.R_slice HL.mem.nd
                      rw [hv] at e93
                      refine skip_ (w1 := w'.setCell ⟨g, 2, none⟩ vd) (by rfl) rfl ?_ ?_
                      · rw [hv]; go_simp
                      refine hK.out _ _ ⟨c, va, vd, x0, vd, all, far, b82, b92, (by rw [ha.out]; exact putSel_none (v := undef) rfl), HL.st18 (hon 4 (by kernel_rfl)) (hon 14 (by kernel_rfl))⟩
                    exact steps_nil
                  · rintro b a w' hall ⟨c, va, vd, x0, x2, all, far, b82, b92, ha, HL⟩
                    have hb0_ := hall 0 (by kernel_rfl)
                    have hb1_ := hall 1 (by kernel_rfl)
                    have hb2_ := hall 2 (by kernel_rfl)
                    have hb3_ := hall 3 (by kernel_rfl)
                    have hb4_ := hall 4 (by kernel_rfl)
                    have hb5_ := hall 5 (by kernel_rfl)
                    have hb6_ := hall 6 (by kernel_rfl)
                    have hb7_ := hall 7 (by kernel_rfl)
                    have hb8_ := hall 8 (by kernel_rfl)
                    have hb9_ := hall 9 (by kernel_rfl)
                    have hb10_ := hall 10 (by kernel_rfl)
                    have hb11_ := hall 11 (by kernel_rfl)
                    have hb12_ := hall 12 (by kernel_rfl)
                    have hb13_ := hall 13 (by kernel_rfl)
                    have hb14_ := hall 14 (by kernel_rfl)
                    have hb15_ := hall 15 (by kernel_rfl)
                    have hb16_ := hall 16 (by kernel_rfl)
                    have hb17_ := hall 17 (by kernel_rfl)
                    have hb18_ := hall 18 (by kernel_rfl)
                    have HEND := Aside0.mk (HL.fin hb4_ hb14_ hb16_ hb18_ HKI.out HND.out)
                    subst ha
                    simp only [putSel, hb0_, hb1_, hb2_, hb3_, hb4_, hb5_, hb6_, hb7_, hb8_, hb9_, hb10_, hb11_, hb12_, hb13_, hb14_, hb15_, hb16_, hb17_, hb18_, if_true, Act.put, List.setIfInBounds_toArray, List.set_cons_zero, List.set_cons_succ]
                    clear HL hall hb0_ hb1_ hb2_ hb3_ hb4_ hb5_ hb6_ hb7_ hb8_ hb9_ hb10_ hb11_ hb12_ hb13_ hb14_ hb15_ hb16_ hb17_ hb18_
                    go_wp2_with fail
                    go_meet
                    exact HEND
                 case rest =>
                  clear HKI HND MM H9 H10 K9 K10 HFK HLM HLF HWFR HIX
                  go_upto_region 17 with fail
                  obtain ⟨cc, bm, va, vd, vf, vm, nD, D, M0, hK, hnD, h9, k9⟩ := hcut.out
                  clear hcut
                  obtain ⟨A6, c6, rfl⟩ := Kd.R_slice M0.nf
                  obtain ⟨A7, c7, rfl⟩ := Kd.R_slice M0.nm
                  have MM := Aside0.mk M0
                  have H9 := Aside0.mk h9
                  have K9 := Aside0.mk k9
                  have HKI := Aside0.mk hK
                  have HND := Lib.hid hnD
                  have HLM := Aside0.mk (show (r2.fr.length + 1) * 8 ≤ 140737488355328 by have := HI2.out.n2; have := HI2.out.l1; omega)
                  have HLF := Aside0.mk (show (r2.ms.length + 1) * 16 ≤ 140737488355328 by have := HI2.out.n2; have := HI2.out.l2; omega)
                  clear M0 h9 k9 hK hnD
                  generalize hAN : r2.all ++ [(⟨l0, nx⟩ : S33)] = allN at MM HKI HND
                  generalize hFN : r2.far ++ [f + 1] = farN at MM
                  have HAN := Aside0.mk hAN
                  have HFN := Aside0.mk hFN
                  clear hAN hFN
                  refine start_ (n := 14) (S := fun w' => True) (ds := []) #[false, false, false, false, false, false, false, false, false, false, false, false, false, false] (by kernel_rfl) rfl rfl trivial (fun hHeld => ?_); refine with_tabW impl_reachOf.tab17 impl_reachOf.bits17 (fun HT_ HW_ => ?_)
                  have hs := below_drew (Below.refl wc.heap.size wc)
                  generalize wc.drew = wd at hs ⊢
                  refine inv_at [0, 1, 2, 3, 4, 5, 6, 7, 8, 9, 10, 11, 12, 13] (fun a0_ b a w' => ∃ (c : Nat → Nat) (vf : Value) (vm : Value) (x3 : Value) (x4 : Value) (fr : List Int) (ms : List S56) (b82 : Nat) (b92 : Nat), a = putSel a0_ b [(0, 96, .pointer (some ⟨g, 3, none⟩)), (1, 97, .slice A6 r2.fr.length c6), (2, 98, .int .i64 (i : Int)), (3, 99, .slice (some ⟨b82, 0, none⟩) 1 1), (4, 100, vf), (5, 101, .pointer (some ⟨g, 4, none⟩)), (6, 102, .slice A7 r2.ms.length c7), (7, 103, .agg #[.int .i64 m.f0, .int .i64 m.f1]), (8, 104, .slice (some ⟨b92, 0, none⟩) 1 1), (9, 105, vm), (10, 106, .pointer (some ⟨g, 3, none⟩)), (12, 107, .pointer (some ⟨g, 4, none⟩))] ∧ S17 w2 w' b g bm n9 c (.slice A6 r2.fr.length c6) (.slice A7 r2.ms.length c7) vf vm x3 x4 va vd (.slice (some am) L.length cL) r2.fr r2.ms fr ms allN farN L nD D m b82 b92 (i : Int)) HT_.out HW_.out (by kernel_rfl) (by kernel_rfl) ?_ ?_ ?_
                  · exact ⟨cc, .slice A6 r2.fr.length c6, .slice A7 r2.ms.length c7, .slice A6 r2.fr.length c6, .slice A7 r2.ms.length c7, r2.fr, r2.ms, 0, 0, by simp only [putSel, Bool.false_eq_true, if_false], S17.start (MM.out.below hs) H9.out (blk_below K9.out hs)⟩
                  · skip
                    clear hs
                    refine steps_cons ?_ ?_
                    · rintro b a w' ⟨c, vf, vm, x3, x4, fr, ms, b82, b92, ha, HL⟩ hb_ hon hoff
                      refine ⟨_, rfl, fun K hK => ?_⟩
                      have e8 : a.tmps[8]? = some (.pointer (some ⟨g, 0, none⟩)) := by rw [ha]; exact (putSel_off rfl).trans rfl
                      replace ha := Aside0.mk ha
                      refine value_ (w1 := w') (v := .pointer (some ⟨g, 3, none⟩)) (by rfl) rfl ?_ ?_
                      · go_simp
                        try rfl
                      refine hK.out _ _ ⟨c, vf, vm, x3, x4, fr, ms, b82, b92, (by rw [ha.out]; exact putSel_upk 0 hb_ rfl rfl rfl), HL.nop0⟩
                    refine steps_cons ?_ ?_
                    · rintro b a w' ⟨c, vf, vm, x3, x4, fr, ms, b82, b92, ha, HL⟩ hb_ hon hoff
                      refine ⟨_, rfl, fun K hK => ?_⟩
                      have e96 : a.tmps[96]? = some (.pointer (some ⟨g, 3, none⟩)) := by rw [ha]; exact putSel_on (e := (0, 96, .pointer (some ⟨g, 3, none⟩))) 0 rfl rfl (hon 0 (by kernel_rfl)) rfl
                      replace ha := Aside0.mk ha
                      have h0 := blk_cell HL.mem.blk 3
                      simp at h0
                      rw [HL.s11 (hoff 11 (by kernel_rfl))] at h0
                      refine value_ (w1 := w') (v := .slice A6 r2.fr.length c6) (by rfl) rfl ?_ ?_
                      · go_simp
                        try rfl
                      refine hK.out _ _ ⟨c, vf, vm, x3, x4, fr, ms, b82, b92, (by rw [ha.out]; exact putSel_upk 1 hb_ rfl rfl rfl), HL.nop1⟩
                    refine steps_cons ?_ ?_
                    · rintro b a w' ⟨c, vf, vm, x3, x4, fr, ms, b82, b92, ha, HL⟩ hb_ hon hoff
                      refine ⟨_, rfl, fun K hK => ?_⟩
                      have e9 : a.tmps[9]? = some (.int .i64 (i : Int)) := by rw [ha]; exact (putSel_off rfl).trans rfl
                      replace ha := Aside0.mk ha
                      refine value_ (w1 := w') (v := .int .i64 (i : Int)) (by rfl) rfl ?_ ?_
                      · go_simp
                        try rfl
                      refine hK.out _ _ ⟨c, vf, vm, x3, x4, fr, ms, b82, b92, (by rw [ha.out]; exact putSel_upk 2 hb_ rfl rfl rfl), HL.nop2⟩
                    refine steps_cons ?_ ?_
                    · rintro b a w' ⟨c, vf, vm, x3, x4, fr, ms, b82, b92, ha, HL⟩ hb_ hon hoff
                      refine ⟨_, rfl, fun K hK => ?_⟩
                      have e98 : a.tmps[98]? = some (.int .i64 (i : Int)) := by rw [ha]; exact putSel_on (e := (2, 98, .int .i64 (i : Int))) 2 rfl rfl (hon 2 (by kernel_rfl)) rfl
                      replace ha := Aside0.mk ha
                      refine value_ (w1 := w'.alloc (.cells #[.int .i64 (i : Int)] 3)) (v := .slice (some ⟨w'.heap.size, 0, none⟩) 1 1) (by rfl) rfl ?_ ?_
                      · go_simp
                      refine hK.out _ _ ⟨_, vf, vm, x3, x4, fr, ms, _, b92, (by rw [ha.out]; exact putSel_upk 3 hb_ rfl rfl rfl), HL.add3⟩
                    refine steps_cons ?_ ?_
                    · rintro b a w' ⟨c, vf, vm, x3, x4, fr, ms, b82, b92, ha, HL⟩ hb_ hon hoff
                      refine ⟨_, rfl, fun K hK => ?_⟩
                      have e97 : a.tmps[97]? = some (.slice A6 r2.fr.length c6) := by rw [ha]; exact putSel_on (e := (1, 97, .slice A6 r2.fr.length c6)) 1 rfl rfl (hon 1 (by kernel_rfl)) rfl
                      have e99 : a.tmps[99]? = some (.slice (some ⟨b82, 0, none⟩) 1 1) := by rw [ha]; exact putSel_on (e := (3, 99, .slice (some ⟨b82, 0, none⟩) 1 1)) 3 rfl rfl (hon 3 (by kernel_rfl)) rfl
                      replace ha := Aside0.mk ha
                      obtain ⟨ok, ev, hN, hfr, hkb, hbw, hnext⟩ := HL.row4 (hon 3 (by kernel_rfl)) hb_ (hoff 11 (by kernel_rfl))
                      subst ev
                      refine R_app_step (Kd.int .i64) (w0 := w2) (w4 := w') (W := w') w2.heap.size (by rfl) (.tmp 97) (.tmp 99) 28 3 (.int .i64 0) 8 (by rfl) Try.underlying28 info3 rfl (by decide) (by omega) (.slice A6 r2.fr.length c6) r2.fr (i : Int) [.int .i64 (i : Int)] ok b82 (eval_of e97) (eval_of e99) hN hfr (fun _ _ => rfl) hbw hbw.size HLM.out (Below.refl _ _) hkb ?_
                      intro v1 w1 ho hb hg
                      refine hK.out _ _ ⟨_, v1, vm, x3, x4, _, ms, b82, b92, (by rw [ha.out]; exact putSel_upk 4 hb_ rfl rfl rfl), hnext v1 w1 ho hb hg⟩
                    refine steps_cons ?_ ?_
                    · rintro b a w' ⟨c, vf, vm, x3, x4, fr, ms, b82, b92, ha, HL⟩ hb_ hon hoff
                      refine ⟨_, rfl, fun K hK => ?_⟩
                      have e8 : a.tmps[8]? = some (.pointer (some ⟨g, 0, none⟩)) := by rw [ha]; exact (putSel_off rfl).trans rfl
                      replace ha := Aside0.mk ha
                      refine value_ (w1 := w') (v := .pointer (some ⟨g, 4, none⟩)) (by rfl) rfl ?_ ?_
                      · go_simp
                        try rfl
                      refine hK.out _ _ ⟨c, vf, vm, x3, x4, fr, ms, b82, b92, (by rw [ha.out]; exact putSel_upk 5 hb_ rfl rfl rfl), HL.nop5⟩
                    refine steps_cons ?_ ?_
                    · rintro b a w' ⟨c, vf, vm, x3, x4, fr, ms, b82, b92, ha, HL⟩ hb_ hon hoff
                      refine ⟨_, rfl, fun K hK => ?_⟩
                      have e101 : a.tmps[101]? = some (.pointer (some ⟨g, 4, none⟩)) := by rw [ha]; exact putSel_on (e := (5, 101, .pointer (some ⟨g, 4, none⟩))) 5 rfl rfl (hon 5 (by kernel_rfl)) rfl
                      replace ha := Aside0.mk ha
                      have h0 := blk_cell HL.mem.blk 4
                      simp at h0
                      rw [HL.s13 (hoff 13 (by kernel_rfl))] at h0
                      refine value_ (w1 := w') (v := .slice A7 r2.ms.length c7) (by rfl) rfl ?_ ?_
                      · go_simp
                        try rfl
                      refine hK.out _ _ ⟨c, vf, vm, x3, x4, fr, ms, b82, b92, (by rw [ha.out]; exact putSel_upk 6 hb_ rfl rfl rfl), HL.nop6⟩
                    refine steps_cons ?_ ?_
                    · rintro b a w' ⟨c, vf, vm, x3, x4, fr, ms, b82, b92, ha, HL⟩ hb_ hon hoff
                      refine ⟨_, rfl, fun K hK => ?_⟩
                      have e11 : a.tmps[11]? = some (.pointer (some ⟨n9, 0, none⟩)) := by rw [ha]; exact (putSel_off rfl).trans rfl
                      replace ha := Aside0.mk ha
                      have h0 := blk_cell HL.k9 0
                      have h1 := blk_cell HL.k9 1
                      simp at h0 h1
                      refine value_ (w1 := w') (v := .agg #[.int .i64 m.f0, .int .i64 m.f1]) (by rfl) rfl ?_ ?_
                      · go_simp
                        try rfl
                      refine hK.out _ _ ⟨c, vf, vm, x3, x4, fr, ms, b82, b92, (by rw [ha.out]; exact putSel_upk 7 hb_ rfl rfl rfl), HL.nop7⟩
                    refine steps_cons ?_ ?_
                    · rintro b a w' ⟨c, vf, vm, x3, x4, fr, ms, b82, b92, ha, HL⟩ hb_ hon hoff
                      refine ⟨_, rfl, fun K hK => ?_⟩
                      have e103 : a.tmps[103]? = some (.agg #[.int .i64 m.f0, .int .i64 m.f1]) := by rw [ha]; exact putSel_on (e := (7, 103, .agg #[.int .i64 m.f0, .int .i64 m.f1])) 7 rfl rfl (hon 7 (by kernel_rfl)) rfl
                      replace ha := Aside0.mk ha
                      refine value_ (w1 := w'.alloc (.cells #[.int .i64 m.f0, .int .i64 m.f1] 56)) (v := .slice (some ⟨w'.heap.size, 0, none⟩) 1 1) (by rfl) rfl ?_ ?_
                      · go_simp
                      refine hK.out _ _ ⟨_, vf, vm, x3, x4, fr, ms, b82, _, (by rw [ha.out]; exact putSel_upk 8 hb_ rfl rfl rfl), HL.add8⟩
                    refine steps_cons ?_ ?_
                    · rintro b a w' ⟨c, vf, vm, x3, x4, fr, ms, b82, b92, ha, HL⟩ hb_ hon hoff
                      refine ⟨_, rfl, fun K hK => ?_⟩
                      have e102 : a.tmps[102]? = some (.slice A7 r2.ms.length c7) := by rw [ha]; exact putSel_on (e := (6, 102, .slice A7 r2.ms.length c7)) 6 rfl rfl (hon 6 (by kernel_rfl)) rfl
                      have e104 : a.tmps[104]? = some (.slice (some ⟨b92, 0, none⟩) 1 1) := by rw [ha]; exact putSel_on (e := (8, 104, .slice (some ⟨b92, 0, none⟩) 1 1)) 8 rfl rfl (hon 8 (by kernel_rfl)) rfl
                      replace ha := Aside0.mk ha
                      obtain ⟨ok, ev, hN, hfr, hkb, hbw, hnext⟩ := HL.row9 (hon 4 (by kernel_rfl)) (hon 8 (by kernel_rfl)) hb_ (hoff 13 (by kernel_rfl))
                      subst ev
                      refine R_app_step k56 (w0 := w2) (w4 := w') (W := w') w2.heap.size (by rfl) (.tmp 102) (.tmp 104) 22 56 (.agg #[.int .i64 0, .int .i64 0]) 16 (by rfl) Try.underlying22 info56 rfl (by decide) (by omega) (.slice A7 r2.ms.length c7) r2.ms m [.int .i64 m.f0, .int .i64 m.f1] ok b92 (eval_of e102) (eval_of e104) hN hfr (fun _ _ => k56_mkM _ _ _ m) hbw hbw.size HLF.out (Below.refl _ _) hkb ?_
                      intro v1 w1 ho hb hg
                      refine hK.out _ _ ⟨_, vf, v1, x3, x4, fr, _, b82, b92, (by rw [ha.out]; exact putSel_upk 9 hb_ rfl rfl rfl), hnext v1 w1 ho hb hg⟩
                    refine steps_cons ?_ ?_
                    · rintro b a w' ⟨c, vf, vm, x3, x4, fr, ms, b82, b92, ha, HL⟩ hb_ hon hoff
                      refine ⟨_, rfl, fun K hK => ?_⟩
                      have e8 : a.tmps[8]? = some (.pointer (some ⟨g, 0, none⟩)) := by rw [ha]; exact (putSel_off rfl).trans rfl
                      replace ha := Aside0.mk ha
                      refine value_ (w1 := w') (v := .pointer (some ⟨g, 3, none⟩)) (by rfl) rfl ?_ ?_
                      · go_simp
                        try rfl
                      refine hK.out _ _ ⟨c, vf, vm, x3, x4, fr, ms, b82, b92, (by rw [ha.out]; exact putSel_upk 10 hb_ rfl rfl rfl), HL.nop10⟩
                    refine steps_cons ?_ ?_
                    · rintro b a w' ⟨c, vf, vm, x3, x4, fr, ms, b82, b92, ha, HL⟩ hb_ hon hoff
                      refine ⟨_, rfl, fun K hK => ?_⟩
                      have e106 : a.tmps[106]? = some (.pointer (some ⟨g, 3, none⟩)) := by rw [ha]; exact putSel_on (e := (10, 106, .pointer (some ⟨g, 3, none⟩))) 10 rfl rfl (hon 10 (by kernel_rfl)) rfl
                      have e100 : a.tmps[100]? = some (vf) := by rw [ha]; exact putSel_on (e := (4, 100, vf)) 4 rfl rfl (hon 4 (by kernel_rfl)) rfl
                      replace ha := Aside0.mk ha
                      have h0 := blk_cell HL.mem.blk 3
                      have z0 := blk_frozen HL.mem.blk 3
                      simp at h0
                      obtain ⟨Av, cv, hv⟩ := Kd.R_slice HL.mem.nf
                      rw [hv] at e100
                      refine skip_ (w1 := w'.setCell ⟨g, 3, none⟩ vf) (by rfl) rfl ?_ ?_
                      · rw [hv]; go_simp
                      refine hK.out _ _ ⟨c, vf, vm, vf, x4, fr, ms, b82, b92, (by rw [ha.out]; exact putSel_none (v := undef) rfl), HL.st11 (hon 4 (by kernel_rfl)) (hon 9 (by kernel_rfl))⟩
                    refine steps_cons ?_ ?_
                    · rintro b a w' ⟨c, vf, vm, x3, x4, fr, ms, b82, b92, ha, HL⟩ hb_ hon hoff
                      refine ⟨_, rfl, fun K hK => ?_⟩
                      have e8 : a.tmps[8]? = some (.pointer (some ⟨g, 0, none⟩)) := by rw [ha]; exact (putSel_off rfl).trans rfl
                      replace ha := Aside0.mk ha
                      refine value_ (w1 := w') (v := .pointer (some ⟨g, 4, none⟩)) (by rfl) rfl ?_ ?_
                      · go_simp
                        try rfl
                      refine hK.out _ _ ⟨c, vf, vm, x3, x4, fr, ms, b82, b92, (by rw [ha.out]; exact putSel_upk 11 hb_ rfl rfl rfl), HL.nop12⟩
                    refine steps_cons ?_ ?_
                    · rintro b a w' ⟨c, vf, vm, x3, x4, fr, ms, b82, b92, ha, HL⟩ hb_ hon hoff
                      refine ⟨_, rfl, fun K hK => ?_⟩
                      have e107 : a.tmps[107]? = some (.pointer (some ⟨g, 4, none⟩)) := by rw [ha]; exact putSel_on (e := (12, 107, .pointer (some ⟨g, 4, none⟩))) 11 rfl rfl (hon 12 (by kernel_rfl)) rfl
                      have e105 : a.tmps[105]? = some (vm) := by rw [ha]; exact putSel_on (e := (9, 105, vm)) 9 rfl rfl (hon 9 (by kernel_rfl)) rfl
                      replace ha := Aside0.mk ha
                      have h0 := blk_cell HL.mem.blk 4
                      have z0 := blk_frozen HL.mem.blk 4
                      simp at h0
                      obtain ⟨Av, cv, hv⟩ := Kd.R_slice HL.mem.nm
                      rw [hv] at e105
                      refine skip_ (w1 := w'.setCell ⟨g, 4, none⟩ vm) (by rfl) rfl ?_ ?_
                      · rw [hv]; go_simp
                      refine hK.out _ _ ⟨c, vf, vm, x3, vm, fr, ms, b82, b92, (by rw [ha.out]; exact putSel_none (v := undef) rfl), HL.st13 (hon 4 (by kernel_rfl)) (hon 9 (by kernel_rfl))⟩
                    exact steps_nil
                  · rintro b a w' hall ⟨c, vf, vm, x3, x4, fr, ms, b82, b92, ha, HL⟩
                    have hb0_ := hall 0 (by kernel_rfl)
                    have hb1_ := hall 1 (by kernel_rfl)
                    have hb2_ := hall 2 (by kernel_rfl)
                    have hb3_ := hall 3 (by kernel_rfl)
                    have hb4_ := hall 4 (by kernel_rfl)
                    have hb5_ := hall 5 (by kernel_rfl)
                    have hb6_ := hall 6 (by kernel_rfl)
                    have hb7_ := hall 7 (by kernel_rfl)
                    have hb8_ := hall 8 (by kernel_rfl)
                    have hb9_ := hall 9 (by kernel_rfl)
                    have hb10_ := hall 10 (by kernel_rfl)
                    have hb11_ := hall 11 (by kernel_rfl)
                    have hb12_ := hall 12 (by kernel_rfl)
                    have hb13_ := hall 13 (by kernel_rfl)
                    have HEND := Aside0.mk (HL.fin hb4_ hb9_ hb11_ hb13_ HKI.out HND.out)
                    subst ha
                    simp only [putSel, hb0_, hb1_, hb2_, hb3_, hb4_, hb5_, hb6_, hb7_, hb8_, hb9_, hb10_, hb11_, hb12_, hb13_, if_true, Act.put, List.setIfInBounds_toArray, List.set_cons_zero, List.set_cons_succ]
                    clear HL hall hb0_ hb1_ hb2_ hb3_ hb4_ hb5_ hb6_ hb7_ hb8_ hb9_ hb10_ hb11_ hb12_ hb13_
                    have HH3 : Aside0 (HeldI w2 w' g l0 (iAdd r2 i m ⟨l0, nx⟩) (.slice (some am) L.length cL) L) := ⟨by
                     have h := HEND.out
                     rw [← HAN.out, ← HFN.out, ← HFE.out] at h
                     exact h⟩
                    clear HEND HKI HND MM H9 K9 HLM HLF HT_ HW_ hHeld
                    have hlen : (iAdd r2 i m ⟨l0, nx⟩).all.length = r2.all.length + 1 := by simp [iAdd]
                    have HLEN := Aside0.mk hlen
                    have HI3 : Aside0 (IInv l0 (iAdd r2 i m ⟨l0, nx⟩)) := ⟨HI2.out.add hir m HG2.out (by have := HLT2.out; have := HM.out; omega)⟩
                    have HX3 : Aside0 (rd_T33 (iAdd r2 i m ⟨l0, nx⟩).all i = rd_T33 r.all i) := ⟨by
                     show rd_T33 (r2.all ++ [_]) i = _
                     rw [rdT_append_lt (by omega) (by omega)]; exact HX.out⟩
                    clear hlen
                    have hm1 : j + 1 ≤ L.length := by omega
                    have hm2 : L.length - (j + 1) ≤ L.length - (j + 1) := Nat.le_refl _
                    go_wp2_with fail
                    go_roundg (L.length - (j + 1))
                    case measure => omega
                    case rel => exact ⟨j + 1, iAdd r2 i m ⟨l0, nx⟩, by go_num, hm1, hm2, by rw [HLEN.out]; omega, by rw [HLEN.out]; exact HLT2.out, HX3, HQ3, HI3, HH3⟩
        · have hjz : ¬ (j : Int) < (L.length : Int) := by omega
          have hq := HQ2.out
          rw [List.drop_eq_nil_of_le (by omega), iVis, Option.bind_some] at hq
          have HQ4 := Aside0.mk hq
          clear hq
          have hi3 : i + 1 ≤ 3000 := by have := HI2.out.n2; omega
          have HH4 : Aside0 (∃ vl ls, HeldI w2 wr g l0 r2 vl ls) := ⟨_, _, HH2.out⟩
          have hgg3 : 3001 - (i + 1) ≤ n1 := by omega
          clear HH2
          go_wp2_with fail
          go_roundg n1
          case measure => omega
          case rel => exact ⟨i + 1, r2, by go_num, hi3, hgg3, HRM.out, HQ4, HI2, HH4⟩
     · have hltz : ¬ (i : Int) < (r.all.length : Int) := by omega
       have hq := HQ.out
       obtain ⟨n1, rfl⟩ : ∃ n1, gk = n1 + 1 := ⟨gk - 1, by omega⟩
       rw [iBfs, if_neg hlt] at hq
       have HRES := Aside0.mk hq
       have HMF := Aside0.mk M0
       have HK0 := Aside0.mk HK0
       clear hq HQ
       have h8 := blk_cell M0.blk 1
       have h9 := blk_cell M0.blk 2
       have h10 := blk_cell M0.blk 3
       have h11 := blk_cell M0.blk 4
       simp at h8 h9 h10 h11
       obtain ⟨Ad, cd, hvd⟩ := Kd.R_slice M0.nd
       obtain ⟨Af, cf, hvf⟩ := Kd.R_slice M0.nf
       obtain ⟨Am, cm, hvm⟩ := Kd.R_slice M0.nm
       subst hvd hvf hvm
       have hk6 := blk_below HK6.out M0.bel
       have h0 := blk_cell hk6 0
       have h1 := blk_cell hk6 1
       have h2 := blk_cell hk6 2
       have h3 := blk_cell hk6 3
       have h4 := blk_cell hk6 4
       have z0 := blk_frozen hk6 0
       have z1 := blk_frozen hk6 1
       have z2 := blk_frozen hk6 2
       have z3 := blk_frozen hk6 3
       have z4 := blk_frozen hk6 4
       simp at h0 h1 h2 h3 h4
       have hz := blk_set (blk_set (blk_set (blk_set (blk_set hk6 0 (.slice Aa r.all.length ca)) 1 (.map (some bm))) 2 (.slice Ad r.far.length cd)) 3 (.slice Af r.fr.length cf)) 4 (.slice Am r.ms.length cm)
       have hgn : g ≠ w.heap.size + 1 := by have := M0.gb; have := blk_lt HK6.out; omega
       have HZ := Aside0.mk hz
       clear M0 hk6 hz
       go_wp2_with fail
       have y0 := blk_cell HZ.out 0
       have y1 := blk_cell HZ.out 1
       have y2 := blk_cell HZ.out 2
       have y3 := blk_cell HZ.out 3
       have y4 := blk_cell HZ.out 4
       clear h0 h1 h2 h3 h4 z0 z1 z2 z3 z4 h8 h9 h10 h11 hb0
       generalize hWF : ((((wr.setCell ⟨w.heap.size + 1, 0, none⟩ (.slice Aa r.all.length ca)).setCell ⟨w.heap.size + 1, 1, none⟩ (.map (some bm))).setCell ⟨w.heap.size + 1, 2, none⟩ (.slice Ad r.far.length cd)).setCell ⟨w.heap.size + 1, 3, none⟩ (.slice Af r.fr.length cf)).setCell ⟨w.heap.size + 1, 4, none⟩ (.slice Am r.ms.length cm) = WF at y0 y1 y2 y3 y4 ⊢
       simp at y0 y1 y2 y3 y4
       refine bodyPost_ret (v := .tuple #[.agg #[.slice Aa r.all.length ca, .map (some bm), .slice Ad r.far.length cd, .slice Af r.fr.length cf, .slice Am r.ms.length cm], .bool true]) (by simp [results, Try.results91, go_sem, hu97, y0, y1, y2, y3, y4]) rfl ?_
       refine ⟨by rw [← hWF]; exact (((((HBW.out _ HMF.out.bel).setCell (by simp) _).setCell (by simp) _).setCell (by simp) _).setCell (by simp) _).setCell (by simp) _, ?_⟩
       rw [← HRES.out]
       have hk : ∀ k, w2.heap.size ≤ k → WF.heap[k]? = wr.heap[k]? := fun k hk1 => by
        have := HN6.out
        rw [← hWF]
        exact (Below.heap_setCell _ _ _ k (by show k ≠ w.heap.size + 1; omega)).trans ((Below.heap_setCell _ _ _ k (by show k ≠ w.heap.size + 1; omega)).trans ((Below.heap_setCell _ _ _ k (by show k ≠ w.heap.size + 1; omega)).trans ((Below.heap_setCell _ _ _ k (by show k ≠ w.heap.size + 1; omega)).trans (Below.heap_setCell _ _ _ k (by show k ≠ w.heap.size + 1; omega)))))
       exact reach_fin HMF.out HK0.out hk
/-- What reachOf leaves: the search, to be read, or nothing. -/
def ReachEnd (w : World) (RES : Option Srch) (e : Ending) (w' : World) : Prop :=
 Below w.heap.size w w' ∧ match RES with
  | some r => ∃ (Aa : Option Addr) (ca b : Nat) (Ad : Option Addr) (nd cd : Nat) (Af : Option Addr) (cf : Nat) (Am : Option Addr) (cm : Nat), e = .returned (.tuple #[.agg #[.slice Aa r.all.length ca, .map (some b), .slice Ad nd cd, .slice Af r.fr.length cf, .slice Am r.ms.length cm], .bool true]) ∧
     Kd.C k33 w' Aa r.all.length r.all ∧ Kd.C (Kd.int .i64) w' Af r.fr.length r.fr ∧ Kd.C k56 w' Am r.ms.length r.ms
  | none => e = .returned (.tuple #[.agg #[.slice none 0 0, .map none, .slice none 0 0, .slice none 0 0, .slice none 0 0], .bool false])
noncomputable def reachP (l0 l1 : List Int) (cl : Bool) : Option Srch := reachM 3000 l0 l1 cl
theorem impl_reachOf.calls (cl : Bool) (A0 A1 : Option Addr) (c0 c1 : Nat) (l0 l1 : List Int) (w : World) (hr0 : Kd.C (Kd.int .i64) w A0 l0.length l0) (hc0 : l0.length ≤ c0) (hr1 : Kd.C (Kd.int .i64) w A1 l1.length l1) (hc1 : l1.length ≤ c1) :
 Calls Try.prog 91 #[.agg #[.slice A0 l0.length c0, .slice A1 l1.length c1], .bool cl, .int .i64 3000] w (ReachEnd w (reachP l0 l1 cl)) := by
 refine (impl_reachOf.callsX 3000 (by decide) (by decide) cl A0 A1 c0 c1 l0 l1 w hr0 hc0 hr1 hc1).mono ?_
 rintro e w' ⟨hb, h⟩
 refine ⟨hb, ?_⟩
 unfold reachP
 cases hR : reachM 3000 l0 l1 cl with
 | none => rw [hR] at h; exact h
 | some r =>
   rw [hR] at h
   obtain ⟨Aa, ca, b, Ad, cd, Af, cf, Am, cm, n, D, he, _, h0, h1, h2, h3, _⟩ := h
   exact ⟨Aa, ca, b, Ad, r.far.length, cd, Af, cf, Am, cm, he, h0, h2, h3⟩
end Go.Proofs.Ytjllbahhkeglfaa.P
namespace Go.Proofs.Ytjllbahhkeglfaa.P
open Go.RowKit Go.Proofs.YtjllbahhkeglfaaW.PrintWords Go.Proofs.YtjllbahhkeglfaaW.PrintLast Go.Proofs.YtjllbahhkeglfaaW.PrintMore
set_option linter.unusedVariables false
set_option linter.unusedSimpArgs false
def sumL (l : List Int) : Int := l.foldl (· + ·) 0
/-- All amounts held, one after the other. -/
def flatH (all : List S33) : List Int := all.flatMap (·.f1)
def sumH (all : List S33) : List Int := all.map (fun x => sumL x.f1)
theorem reachM_inv {l0 l1 : List Int} {c : Bool} {r : Srch} (h : reachM 3000 l0 l1 c = some r) : IInv l0 r := by
 unfold reachM at h
 by_cases hg : goodB l0 l1 = true
 · rw [if_pos hg, search_eq (goodB_iff.1 hg)] at h
   obtain ⟨r0, h0, rfl⟩ := Option.map_eq_some_iff.1 h
   exact IInv.of (sBfs_inv 3001 0 _ r0 (SInv.start (goodB_iff.1 hg)) h0)
 · rw [if_neg hg] at h; cases h
theorem flatH_take {all : List S33} {j : Nat} (h : j < all.length) : flatH (all.take (j + 1)) = flatH (all.take j) ++ (rd_T33 all (j : Int)).f1 := by
 unfold flatH rd_T33
 rw [List.take_succ_eq_append_getElem h, List.flatMap_append]
 simp [List.getD_eq_getElem?_getD, List.getElem?_eq_getElem h]
theorem sumH_take {all : List S33} {j : Nat} (h : j < all.length) : sumH (all.take (j + 1)) = sumH (all.take j) ++ [sumL (rd_T33 all (j : Int)).f1] := by
 unfold sumH rd_T33
 rw [List.take_succ_eq_append_getElem h, List.map_append]
 simp [List.getD_eq_getElem?_getD, List.getElem?_eq_getElem h]
theorem flatH_len {l0 : List Int} : ∀ {all : List S33}, (∀ x ∈ all, x.f0 = l0 ∧ Good l0 x.f1) → (flatH all).length ≤ 5 * all.length
 | [], _ => by simp [flatH]
 | x :: l, h => by
   have ih := flatH_len (all := l) (fun y hy => h y (List.mem_cons_of_mem _ hy))
   have g := (h x (List.mem_cons_self ..)).2
   have := g.len
   have := g.n5
   unfold flatH at ih ⊢
   rw [List.flatMap_cons, List.length_append, List.length_cons]
   omega
theorem sumH_len (all : List S33) : (sumH all).length = all.length := by simp [sumH]
theorem flatH_pos {l0 : List Int} {r : Srch} (I : IInv l0 r) : 0 < (flatH r.all).length := by
 have h1 := I.n1
 have hg := I.good
 unfold flatH
 generalize r.all = all at h1 hg
 cases all with
 | nil => simp at h1
 | cons x l =>
   have g := (hg x (List.mem_cons_self ..)).2
   have := g.len
   have := g.n1
   rw [List.flatMap_cons, List.length_append]
   omega
theorem sumH_pos {l0 : List Int} {r : Srch} (I : IInv l0 r) : 0 < (sumH r.all).length := by
 have := I.n1
 rw [sumH_len]; omega
end Go.Proofs.Ytjllbahhkeglfaa.P
namespace Go.Proofs.Ytjllbahhkeglfaa.P
open Go.RowKit Go.Proofs.YtjllbahhkeglfaaW.PrintWords Go.Proofs.YtjllbahhkeglfaaW.PrintLast Go.Proofs.YtjllbahhkeglfaaW.PrintMore
attribute [local go_sem] max2_int min2_int max_two min_two max_three min_three max_four min_four
set_option linter.unusedVariables false
set_option linter.unusedSimpArgs false

/-! ### impl_total: function 113 -/
def impl_total.l0 : Nat → Int → List Int → Int → Int → Option (Int)
 | 0, _, _, _, _ => none
 | k + 1, x3, x6, x7, x8 => if x8 < x7 then (if 0 ≤ x8 then (if x8 < (x6.length : Int) then (impl_total.l0 k (wrap64 (x3 + (rd x6 x8))) x6 x7 (wrap64 (x8 + 1))) else (none)) else (none)) else (some x3)
def impl_total.f (k : Nat) (l0 : List Int) : Option (Int) := impl_total.l0 k 0 l0 (l0.length : Int) 0
theorem impl_total.mono_l : ∀ k, (∀ y0 y1 y2 y3, LeO (impl_total.l0 k y0 y1 y2 y3) (impl_total.l0 (k + 1) y0 y1 y2 y3))
 | 0 => fun _ _ _ _ r h => by simp [impl_total.l0] at h
 | k + 1 => by
   have ih0 := impl_total.mono_l k
   · intro y0 y1 y2 y3
     unfold impl_total.l0
     repeat' first
     | (with_reducible exact ih0 _ _ _ _)
     | (with_reducible exact LeO.refl _)
     | (with_reducible exact LeO.none _)
     | (with_reducible refine LeO.ite ?_ ?_)
     | (with_reducible refine LeO.bind ?_ (fun _ => ?_))
     | exact ih0 _ _ _ _
     | exact LeO.none _
     | refine LeO.ite ?_ ?_
     | refine LeO.bind ?_ (fun _ => ?_)
theorem impl_total.mono : ∀ a0 k, LeO (impl_total.f k a0) (impl_total.f (k + 1) a0) := by
 intro a0 k
 have ih0 := impl_total.mono_l k
 unfold impl_total.f
 repeat' first
  | (with_reducible exact ih0 _ _ _ _)
  | (with_reducible exact LeO.refl _)
  | (with_reducible exact LeO.none _)
  | (with_reducible refine LeO.ite ?_ ?_)
  | (with_reducible refine LeO.bind ?_ (fun _ => ?_))
  | exact ih0 _ _ _ _
  | exact LeO.none _
  | refine LeO.ite ?_ ?_
  | refine LeO.bind ?_ (fun _ => ?_)
set_option maxHeartbeats 8000000 in
set_option maxRecDepth 100000 in
theorem impl_total.calls (k : Nat) (A0 : Option Addr) (c0 : Nat) (l0 : List Int) (r : Int) (w : World) (hr0 : Kd.C (Kd.int .i64) w A0 l0.length l0) (hc0 : l0.length ≤ c0) (h : impl_total.f k l0 = some r) :
 Calls Try.prog 113 #[.slice A0 l0.length c0] w fun e w' => e = .returned (.int .i64 r) ∧ Drawn0 w w' := by
 have HR0 := Aside0.mk hr0
 have HC0 := Aside0.mk hc0
 clear hr0 hc0
 have H : (impl_total.l0 k 0 l0 (l0.length : Int) 0) = some r := h
 clear h
 have H' := Aside0.mk H
 clear H
 go_enter Try.func113, Try.ntmps113
 go_wp2
 go_loopg [3, 8] k (fun kq v3 v8 w' => ∃ (x3_1 : Int) (x8_1 : Int), v3 = .int .i64 x3_1 ∧ v8 = .int .i64 x8_1 ∧ Aside0 (impl_total.l0 kq x3_1 l0 (l0.length : Int) x8_1 = some r) ∧ Aside0 (kq ≤ k) ∧ Drawn0 w w')
 case atStart => exact ⟨(0), (0), (by first | rfl | (simp; done) | (simp [*]; done)), (by first | rfl | (simp; done) | (simp [*]; done)), H', ⟨Nat.le_refl _⟩, by repeat (first | exact Drawn0.refl _ | apply Drawn0.step)⟩
 case round =>
  clear H'
  try clear c1
  obtain ⟨x3_1, x8_1, rfl, rfl, HA, HK1, ⟨m1, rfl⟩⟩ := hrel
  cases gk with
  | zero => exact absurd HA.out (by simp [impl_total.l0])
  | succ k1 =>
    have H := HA.out
    clear HA
    simp only [impl_total.l0] at H
    by_cases c2 : x8_1 < (l0.length : Int)
    · rw [if_pos c2] at H
      have c2b0 : decide (x8_1 < (l0.length : Int)) = true := decide_eq_true c2
      clear c2
      by_cases c3 : 0 ≤ x8_1
      · rw [if_pos c3] at H
        have c3b0 : decide (0 ≤ x8_1) = true := decide_eq_true c3
        clear c3
        by_cases c4 : x8_1 < (l0.length : Int)
        · rw [if_pos c4] at H
          have c4b0 : decide (x8_1 < (l0.length : Int)) = true := decide_eq_true c4
          clear c4
          have H' := Aside0.mk H
          clear H
          have p101 : 0 ≤ (x8_1 : Int) := of_decide_eq_true (by first | (with_reducible assumption) | assumption)
          have q101 : x8_1 < (l0.length : Int) := of_decide_eq_true (by first | (with_reducible assumption) | assumption)
          obtain ⟨ad101, e101, hx101_0⟩ := Kd.at_int HR0.out x8_1 p101 q101
          cases e101
          replace p101 := eq_true p101
          replace q101 := eq_true q101
          go_wp2
          go_roundg k1
          case measure => have := HK1.out; omega
          case rel => exact ⟨(wrap64 (x3_1 + (rd l0 x8_1))), (wrap64 (x8_1 + 1)), (by first | rfl | (simp; done) | (simp [*]; done)), (by first | rfl | (simp; done) | (simp [*]; done)), H', ⟨by have := HK1.out; omega⟩, by repeat (first | exact Drawn0.refl _ | apply Drawn0.step)⟩
        · rw [if_neg c4] at H
          exact absurd H (by simp)
      · rw [if_neg c3] at H
        exact absurd H (by simp)
    · rw [if_neg c2] at H
      have c2b0 : decide (x8_1 < (l0.length : Int)) = false := decide_eq_false c2
      clear c2
      obtain rfl := Option.some.inj H
      go_wp2
      go_ret
      exact ⟨by first | rfl | (simp; done) | (simp [*]; done), by repeat (first | exact Drawn0.refl _ | apply Drawn0.step)⟩

end Go.Proofs.Ytjllbahhkeglfaa.P
namespace Go.Proofs.Ytjllbahhkeglfaa.P
open Go.RowKit Go.Proofs.YtjllbahhkeglfaaW.PrintWords Go.Proofs.YtjllbahhkeglfaaW.PrintLast Go.Proofs.YtjllbahhkeglfaaW.PrintMore
attribute [local go_sem] max2_int min2_int max_two min_two max_three min_three max_four min_four
set_option linter.unusedVariables false
set_option linter.unusedSimpArgs false

/-! ### spec_veSum: function 141 -/
def spec_veSum.l0 : Nat → Int → List Int → Int → Int → Option (Int)
 | 0, _, _, _, _ => none
 | k + 1, x3, x6, x7, x8 => if x8 < x7 then (if 0 ≤ x8 then (if x8 < (x6.length : Int) then (spec_veSum.l0 k (wrap64 (x3 + (rd x6 x8))) x6 x7 (wrap64 (x8 + 1))) else (none)) else (none)) else (some x3)
def spec_veSum.f (k : Nat) (l0 : List Int) : Option (Int) := spec_veSum.l0 k 0 l0 (l0.length : Int) 0
theorem spec_veSum.mono_l : ∀ k, (∀ y0 y1 y2 y3, LeO (spec_veSum.l0 k y0 y1 y2 y3) (spec_veSum.l0 (k + 1) y0 y1 y2 y3))
 | 0 => fun _ _ _ _ r h => by simp [spec_veSum.l0] at h
 | k + 1 => by
   have ih0 := spec_veSum.mono_l k
   · intro y0 y1 y2 y3
     unfold spec_veSum.l0
     repeat' first
     | (with_reducible exact ih0 _ _ _ _)
     | (with_reducible exact LeO.refl _)
     | (with_reducible exact LeO.none _)
     | (with_reducible refine LeO.ite ?_ ?_)
     | (with_reducible refine LeO.bind ?_ (fun _ => ?_))
     | exact ih0 _ _ _ _
     | exact LeO.none _
     | refine LeO.ite ?_ ?_
     | refine LeO.bind ?_ (fun _ => ?_)
theorem spec_veSum.mono : ∀ a0 k, LeO (spec_veSum.f k a0) (spec_veSum.f (k + 1) a0) := by
 intro a0 k
 have ih0 := spec_veSum.mono_l k
 unfold spec_veSum.f
 repeat' first
  | (with_reducible exact ih0 _ _ _ _)
  | (with_reducible exact LeO.refl _)
  | (with_reducible exact LeO.none _)
  | (with_reducible refine LeO.ite ?_ ?_)
  | (with_reducible refine LeO.bind ?_ (fun _ => ?_))
  | exact ih0 _ _ _ _
  | exact LeO.none _
  | refine LeO.ite ?_ ?_
  | refine LeO.bind ?_ (fun _ => ?_)
set_option maxHeartbeats 8000000 in
set_option maxRecDepth 100000 in
theorem spec_veSum.calls (k : Nat) (A0 : Option Addr) (c0 : Nat) (l0 : List Int) (r : Int) (w : World) (hr0 : Kd.C (Kd.int .i64) w A0 l0.length l0) (hc0 : l0.length ≤ c0) (h : spec_veSum.f k l0 = some r) :
 Calls Try.prog 141 #[.slice A0 l0.length c0] w fun e w' => e = .returned (.int .i64 r) ∧ Drawn0 w w' := by
 have HR0 := Aside0.mk hr0
 have HC0 := Aside0.mk hc0
 clear hr0 hc0
 have H : (spec_veSum.l0 k 0 l0 (l0.length : Int) 0) = some r := h
 clear h
 have H' := Aside0.mk H
 clear H
 go_enter Try.func141, Try.ntmps141
 go_wp2
 go_loopg [3, 8] k (fun kq v3 v8 w' => ∃ (x3_1 : Int) (x8_1 : Int), v3 = .int .i64 x3_1 ∧ v8 = .int .i64 x8_1 ∧ Aside0 (spec_veSum.l0 kq x3_1 l0 (l0.length : Int) x8_1 = some r) ∧ Aside0 (kq ≤ k) ∧ Drawn0 w w')
 case atStart => exact ⟨(0), (0), (by first | rfl | (simp; done) | (simp [*]; done)), (by first | rfl | (simp; done) | (simp [*]; done)), H', ⟨Nat.le_refl _⟩, by repeat (first | exact Drawn0.refl _ | apply Drawn0.step)⟩
 case round =>
  clear H'
  try clear c1
  obtain ⟨x3_1, x8_1, rfl, rfl, HA, HK1, ⟨m1, rfl⟩⟩ := hrel
  cases gk with
  | zero => exact absurd HA.out (by simp [spec_veSum.l0])
  | succ k1 =>
    have H := HA.out
    clear HA
    simp only [spec_veSum.l0] at H
    by_cases c2 : x8_1 < (l0.length : Int)
    · rw [if_pos c2] at H
      have c2b0 : decide (x8_1 < (l0.length : Int)) = true := decide_eq_true c2
      clear c2
      by_cases c3 : 0 ≤ x8_1
      · rw [if_pos c3] at H
        have c3b0 : decide (0 ≤ x8_1) = true := decide_eq_true c3
        clear c3
        by_cases c4 : x8_1 < (l0.length : Int)
        · rw [if_pos c4] at H
          have c4b0 : decide (x8_1 < (l0.length : Int)) = true := decide_eq_true c4
          clear c4
          have H' := Aside0.mk H
          clear H
          have p101 : 0 ≤ (x8_1 : Int) := of_decide_eq_true (by first | (with_reducible assumption) | assumption)
          have q101 : x8_1 < (l0.length : Int) := of_decide_eq_true (by first | (with_reducible assumption) | assumption)
          obtain ⟨ad101, e101, hx101_0⟩ := Kd.at_int HR0.out x8_1 p101 q101
          cases e101
          replace p101 := eq_true p101
          replace q101 := eq_true q101
          go_wp2
          go_roundg k1
          case measure => have := HK1.out; omega
          case rel => exact ⟨(wrap64 (x3_1 + (rd l0 x8_1))), (wrap64 (x8_1 + 1)), (by first | rfl | (simp; done) | (simp [*]; done)), (by first | rfl | (simp; done) | (simp [*]; done)), H', ⟨by have := HK1.out; omega⟩, by repeat (first | exact Drawn0.refl _ | apply Drawn0.step)⟩
        · rw [if_neg c4] at H
          exact absurd H (by simp)
      · rw [if_neg c3] at H
        exact absurd H (by simp)
    · rw [if_neg c2] at H
      have c2b0 : decide (x8_1 < (l0.length : Int)) = false := decide_eq_false c2
      clear c2
      obtain rfl := Option.some.inj H
      go_wp2
      go_ret
      exact ⟨by first | rfl | (simp; done) | (simp [*]; done), by repeat (first | exact Drawn0.refl _ | apply Drawn0.step)⟩

end Go.Proofs.Ytjllbahhkeglfaa.P
namespace Go.Proofs.Ytjllbahhkeglfaa.P
open Go.RowKit Go.Proofs.YtjllbahhkeglfaaW.PrintWords Go.Proofs.YtjllbahhkeglfaaW.PrintLast Go.Proofs.YtjllbahhkeglfaaW.PrintMore
set_option linter.unusedVariables false
set_option linter.unusedSimpArgs false
theorem sumL_snoc (l : List Int) (x : Int) : sumL (l ++ [x]) = sumL l + x := by unfold sumL; rw [List.foldl_append]; rfl
theorem foldl_add : ∀ (l : List Int) (a : Int), l.foldl (· + ·) a = a + l.foldl (· + ·) 0
 | [], a => by simp
 | x :: l, a => by
   rw [List.foldl_cons, List.foldl_cons, foldl_add l (a + x), foldl_add l (0 + x)]
   omega
theorem sumL_bd : ∀ (l : List Int), (∀ x ∈ l, 0 ≤ x ∧ x ≤ 60) → 0 ≤ sumL l ∧ sumL l ≤ 60 * l.length
 | [], _ => by simp [sumL]
 | x :: l, h => by
   have h1 := sumL_bd l (fun y hy => h y (List.mem_cons_of_mem _ hy))
   have h2 := h x (List.mem_cons_self ..)
   have e : sumL (x :: l) = x + sumL l := by unfold sumL; rw [List.foldl_cons, foldl_add]; omega
   rw [e, List.length_cons]
   omega
theorem Good.mem {s h : List Int} (G : Good s h) : ∀ x ∈ h, 0 ≤ x ∧ x ≤ 60 := by
 intro x hx
 obtain ⟨i, i0, i1, rfl⟩ := rd_mem hx
 have := G.len
 have h0 := G.h0 i i0 (by omega)
 have h1 := G.s1 i i0 (by omega)
 omega
theorem take_snoc_rd {l : List Int} {i : Int} (h0 : 0 ≤ i) (h : i < l.length) : l.take (i.toNat + 1) = l.take i.toNat ++ [rd l i] := by
 rw [List.take_succ_eq_append_getElem (by omega : i.toNat < l.length)]
 simp [rd, List.getD_eq_getElem?_getD, List.getElem?_eq_getElem (by omega : i.toNat < l.length)]
theorem total_l0 (l : List Int) (hl : l.length ≤ 5) (hb : ∀ x ∈ l, 0 ≤ x ∧ x ≤ 60) : ∀ (d : Nat) (i : Int), i + d = l.length → 0 ≤ i → Ev (fun k => impl_total.l0 k (sumL (l.take i.toNat)) l (l.length : Int) i) (sumL l) := by
 intro d
 induction d with
 | zero =>
   intro i h h0
   refine Ev.step (f := fun _ => some (sumL l)) (fun k => ?_) (Ev.now _)
   show impl_total.l0 (k + 1) _ l _ i = _
   rw [impl_total.l0, if_neg (by omega), List.take_of_length_le (by omega)]
 | succ d ih =>
   intro i h h0
   refine Ev.step (fun k => ?_) (ih (i + 1) (by omega) (by omega))
   show impl_total.l0 (k + 1) _ l _ i = _
   have hs := sumL_bd (l.take i.toNat) (fun x hx => hb x (List.mem_of_mem_take hx))
   have hr := hb _ (mem_rd h0 (by omega : i < l.length))
   have ht : (l.take i.toNat).length ≤ 5 := by rw [List.length_take]; omega
   rw [impl_total.l0, if_pos (by omega), if_pos h0, if_pos (by omega), w64 (by omega) (by omega), w64 (by omega) (by omega), show (i + 1).toNat = i.toNat + 1 by omega, take_snoc_rd h0 (by omega), sumL_snoc]
theorem total_ev {s h : List Int} (G : Good s h) : Ev (fun k => impl_total.f k h) (sumL h) := by
 have := G.len; have := G.n5
 exact Ev.congr (fun k => by show impl_total.f k h = _; rw [impl_total.f]; rfl) (total_l0 h (by omega) G.mem h.length 0 (by omega) (Int.le_refl _))
theorem vesum_l0 (l : List Int) (hl : l.length ≤ 5) (hb : ∀ x ∈ l, 0 ≤ x ∧ x ≤ 60) : ∀ (d : Nat) (i : Int), i + d = l.length → 0 ≤ i → Ev (fun k => spec_veSum.l0 k (sumL (l.take i.toNat)) l (l.length : Int) i) (sumL l) := by
 intro d
 induction d with
 | zero =>
   intro i h h0
   refine Ev.step (f := fun _ => some (sumL l)) (fun k => ?_) (Ev.now _)
   show spec_veSum.l0 (k + 1) _ l _ i = _
   rw [spec_veSum.l0, if_neg (by omega), List.take_of_length_le (by omega)]
 | succ d ih =>
   intro i h h0
   refine Ev.step (fun k => ?_) (ih (i + 1) (by omega) (by omega))
   show spec_veSum.l0 (k + 1) _ l _ i = _
   have hs := sumL_bd (l.take i.toNat) (fun x hx => hb x (List.mem_of_mem_take hx))
   have hr := hb _ (mem_rd h0 (by omega : i < l.length))
   have ht : (l.take i.toNat).length ≤ 5 := by rw [List.length_take]; omega
   rw [spec_veSum.l0, if_pos (by omega), if_pos h0, if_pos (by omega), w64 (by omega) (by omega), w64 (by omega) (by omega), show (i + 1).toNat = i.toNat + 1 by omega, take_snoc_rd h0 (by omega), sumL_snoc]
theorem vesum_ev {s h : List Int} (G : Good s h) : Ev (fun k => spec_veSum.f k h) (sumL h) := by
 have := G.len; have := G.n5
 exact Ev.congr (fun k => by show spec_veSum.f k h = _; rw [spec_veSum.f]; rfl) (vesum_l0 h (by omega) G.mem h.length 0 (by omega) (Int.le_refl _))
end Go.Proofs.Ytjllbahhkeglfaa.P
namespace Go.Proofs
open Go.Shelf
def Try.lays189_ren : Go.Shelf.Ren := ⟨fun | 189 => 163 | 125 => 169 | 257 => 168 | 128 => 179 | 129 => 180 | 294 => 170 | 295 => 171 | 296 => 172 | 297 => 173 | 298 => 174 | 299 => 175 | 216 => 176 | 300 => 177 | 301 => 178 | 328 => 181 | 329 => 182 | 330 => 183 | 331 => 184 | 332 => 185 | 215 => 167 | 343 => 186 | n => n, fun | 28 => 28 | 3 => 3 | 46 => 152 | 0 => 0 | 51 => 163 | 53 => 125 | 4 => 4 | 183 => 157 | 182 => 156 | 131 => 38 | 5 => 5 | 9 => 9 | 218 => 165 | 222 => 169 | 228 => 171 | 229 => 172 | n => n, fun | n => n⟩
theorem Try.lays189 : Go.Proofs.Lays.n189 Try.prog Try.lays189_ren := {
 mixed := by kernel_rfl
 f125 := Try.func169.trans (congrArg some (by kernel_rfl))
 f128 := Try.func179.trans (congrArg some (by kernel_rfl))
 f129 := Try.func180.trans (congrArg some (by kernel_rfl))
 f189 := Try.func163.trans (congrArg some (by kernel_rfl))
 f215 := Try.func167.trans (congrArg some (by kernel_rfl))
 f216 := Try.func176.trans (congrArg some (by kernel_rfl))
 f257 := Try.func168.trans (congrArg some (by kernel_rfl))
 f294 := Try.func170.trans (congrArg some (by kernel_rfl))
 f295 := Try.func171.trans (congrArg some (by kernel_rfl))
 f296 := Try.func172.trans (congrArg some (by kernel_rfl))
 f297 := Try.func173.trans (congrArg some (by kernel_rfl))
 f298 := Try.func174.trans (congrArg some (by kernel_rfl))
 f299 := Try.func175.trans (congrArg some (by kernel_rfl))
 f300 := Try.func177.trans (congrArg some (by kernel_rfl))
 f301 := Try.func178.trans (congrArg some (by kernel_rfl))
 f328 := Try.func181.trans (congrArg some (by kernel_rfl))
 f329 := Try.func182.trans (congrArg some (by kernel_rfl))
 f330 := Try.func183.trans (congrArg some (by kernel_rfl))
 f331 := Try.func184.trans (congrArg some (by kernel_rfl))
 f332 := Try.func185.trans (congrArg some (by kernel_rfl))
 f343 := Try.func186.trans (congrArg some (by kernel_rfl))
 t0 := Try.underlying0
 a0 := Try.isAgg0
 z0 := Try.sizeOf0
 v0 := Try.zeroValue0
 t3 := Try.underlying3
 a3 := Try.isAgg3
 z3 := Try.sizeOf3
 v3 := Try.zeroValue3
 t4 := Try.underlying4
 a4 := Try.isAgg4
 z4 := Try.sizeOf4
 v4 := Try.zeroValue4
 t5 := Try.underlying5
 a5 := Try.isAgg5
 z5 := Try.sizeOf5
 v5 := Try.zeroValue5
 t9 := Try.underlying9
 a9 := Try.isAgg9
 z9 := Try.sizeOf9
 v9 := Try.zeroValue9
 t28 := Try.underlying28
 a28 := Try.isAgg28
 z28 := Try.sizeOf28
 v28 := Try.zeroValue28
 t46 := Try.underlying152
 a46 := Try.isAgg152
 z46 := Try.sizeOf152
 v46 := Try.zeroValue152
 t51 := Try.underlying163
 a51 := Try.isAgg163
 z51 := Try.sizeOf163
 v51 := Try.zeroValue163
 t53 := Try.underlying125
 a53 := Try.isAgg125
 z53 := Try.sizeOf125
 v53 := Try.zeroValue125
 t131 := Try.underlying38
 a131 := Try.isAgg38
 z131 := Try.sizeOf38
 v131 := Try.zeroValue38
 t182 := Try.underlying156
 a182 := Try.isAgg156
 z182 := Try.sizeOf156
 v182 := Try.zeroValue156
 t183 := Try.underlying157
 a183 := Try.isAgg157
 z183 := Try.sizeOf157
 v183 := Try.zeroValue157
 t218 := Try.underlying165
 a218 := Try.isAgg165
 z218 := Try.sizeOf165
 v218 := Try.zeroValue165
 t222 := Try.underlying169
 a222 := Try.isAgg169
 z222 := Try.sizeOf169
 v222 := Try.zeroValue169
 t228 := Try.underlying171
 a228 := Try.isAgg171
 z228 := Try.sizeOf171
 v228 := Try.zeroValue171
 t229 := Try.underlying172
 a229 := Try.isAgg172
 z229 := Try.sizeOf172
 v229 := Try.zeroValue172 }
def Try.lays2_20_ren : Go.Shelf.Ren := ⟨fun | 20 => 164 | n => n, fun | 22 => 28 | 3 => 3 | 4 => 4 | 0 => 0 | n => n, fun | n => n⟩
theorem Try.lays2_20 : Go.Proofs.Lays2.n20 Try.prog Try.lays2_20_ren := {
 mixed := by kernel_rfl
 f20 := Try.func164.trans (congrArg some (by kernel_rfl))
 t0 := Try.underlying0
 a0 := Try.isAgg0
 z0 := Try.sizeOf0
 v0 := Try.zeroValue0
 t3 := Try.underlying3
 a3 := Try.isAgg3
 z3 := Try.sizeOf3
 v3 := Try.zeroValue3
 t4 := Try.underlying4
 a4 := Try.isAgg4
 z4 := Try.sizeOf4
 v4 := Try.zeroValue4
 t22 := Try.underlying28
 a22 := Try.isAgg28
 z22 := Try.sizeOf28
 v22 := Try.zeroValue28
 i3 := by kernel_rfl }
end Go.Proofs
namespace Go.Proofs.Ytjllbahhkeglfaa.P
open Go.RowKit Go.Proofs.YtjllbahhkeglfaaW.PrintWords Go.Proofs.YtjllbahhkeglfaaW.PrintLast Go.Proofs.YtjllbahhkeglfaaW.PrintMore
open Go.Sort Go.Shelf
set_option linter.unusedVariables false
set_option linter.unusedSimpArgs false
def incP (zs : List Int) : List Int := Lib.compact (zs.mergeSort fun x y => decide (x ≤ y))
theorem grownBy_putI {w : World} {g n : Nat} (d : Array Int) : w.grownBy (putRow (Value.int .i64) (Go.Sort.ahead w n) g 0 d) (some g) := by
 have h := grownBy_sortedI (w := w) (g := g) (n := n) (os := #[]) d
 rwa [grow_empty] at h
set_option maxHeartbeats 2000000 in
set_option maxRecDepth 100000 in
theorem impl_increasing.calls (base g cap : Nat) (ok : Nat → Prop) (zs : List Int) (w : World) (hl : zs.length ≤ 1000000) (hR : Kd.R (Kd.int .i64) 3 w base ok (.slice (some ⟨g, 0, none⟩) zs.length cap) zs) :
 Calls Try.prog 140 #[.slice (some ⟨g, 0, none⟩) zs.length cap] w fun e w' => e = .returned (.slice (some ⟨g, 0, none⟩) (incP zs).length cap) ∧ Kd.R (Kd.int .i64) 3 w' base ok (.slice (some ⟨g, 0, none⟩) (incP zs).length cap) (incP zs) ∧ w.grownBy w' (some g) := by
 have hown := Kd.own_of_R hR
 obtain ⟨g', cap', hv, hbase, hlt, hn, hm, hlen, hH⟩ := Lib.holds_of_ownsRow (enc := Value.int .i64) hown (by simp)
 obtain ⟨rfl, rfl⟩ : g = g' ∧ cap = cap' := by simpa using hv
 have hsl : (zs.mergeSort fun x y => decide (x ≤ y)).length = zs.length := List.length_mergeSort zs
 have HS := Any.slices_Sort_int Try.lays189 g 0 cap zs w hH hlt (by omega)
 have HC163 : Hid (Calls Try.prog 163 #[.slice (some ⟨g, 0, none⟩) zs.length cap] w fun e w' => e = .returned (.tuple #[]) ∧ Kd.R (Kd.int .i64) 3 w' base ok (.slice (some ⟨g, 0, none⟩) zs.length cap) (zs.mergeSort fun x y => decide (x ≤ y)) ∧ w.grownBy w' (some g)) := by
  refine Calls.mono HS ?_
  rintro e w' ⟨rfl, n, os, rfl⟩
  refine ⟨rfl, ?_, grownBy_sortedI _⟩
  rcases hown.2 with ⟨h0, _⟩ | ⟨g', cap', cur, hv, hbase, hb, h1, h2, h3, h4⟩
  · cases h0
  · cases hv
    have hs := ownsRow_sortedI (n := n) (os := os) (ts := zs.mergeSort fun x y => decide (x ≤ y)) hsl hbase hb h1 h2 h3
    rw [← hsl] at hs ⊢
    exact Kd.R_of_own hs hR.1
 have HC164 : Hid (∀ (w1 : World), Kd.R (Kd.int .i64) 3 w1 base ok (.slice (some ⟨g, 0, none⟩) zs.length cap) (zs.mergeSort fun x y => decide (x ≤ y)) → Calls Try.prog 164 #[.slice (some ⟨g, 0, none⟩) zs.length cap] w1 fun e w' => e = .returned (.slice (some ⟨g, 0, none⟩) (incP zs).length cap) ∧ Kd.R (Kd.int .i64) 3 w' base ok (.slice (some ⟨g, 0, none⟩) (incP zs).length cap) (incP zs) ∧ w1.grownBy w' (some g)) := by
  intro w1 hR1
  rw [← hsl] at hR1 ⊢
  have hown1 := Kd.own_of_R hR1
  obtain ⟨g', cap', hv, _, _, hn1, _, _, hH1⟩ := Lib.holds_of_ownsRow (enc := Value.int .i64) hown1 (by simp)
  obtain ⟨rfl, rfl⟩ : g = g' ∧ cap = cap' := by simpa using hv
  refine Calls.mono (Any.slices_Compact_int Try.lays2_20 g 0 cap _ w1 hH1 (by omega) hn1) ?_
  rintro e w' ⟨rfl, q, rfl⟩
  have hle : (incP zs).length ≤ (zs.mergeSort fun x y => decide (x ≤ y)).length := Lib.compact_length_le _
  refine ⟨rfl, ?_, grownBy_putI _⟩
  have hc := Lib.ownsRow_putRow (q := q) (k := (incP zs).length) (ys := incP zs ++ List.replicate ((zs.mergeSort fun x y => decide (x ≤ y)).length - (incP zs).length) 0) hown1 (by simp; omega) hle
  rw [List.take_left] at hc
  exact Kd.R_of_own hc hR1.1
 clear HS hH hown hv
 go_enter Try.func140, Try.ntmps140
 go_wp2_with (first
  | (go_at_call 163; refine HC163.out.mono ?_; rintro e w1 ⟨rfl, h1, h2⟩; have HR1 := Aside0.mk h1; have HG1 := Aside0.mk h2; clear h1 h2)
  | (go_at_call 164; refine (HC164.out _ HR1.out).mono ?_; rintro e w2 ⟨rfl, h1, h2⟩; have HR2 := Aside0.mk h1; have HG2 := Aside0.mk h2; clear h1 h2))
 go_ret
 exact ⟨rfl, HR2.out, ⟨HG2.out.os.trans HG1.out.os, HG2.out.tape.trans HG1.out.tape, HG2.out.output.trans HG1.out.output, Nat.le_trans HG1.out.size HG2.out.size, fun k hk hne => (HG2.out.block k (Nat.lt_of_lt_of_le hk HG1.out.size) hne).trans (HG1.out.block k hk hne)⟩⟩
end Go.Proofs.Ytjllbahhkeglfaa.P
namespace Go.Proofs.Ytjllbahhkeglfaa.P
open Go.RowKit Go.Proofs.YtjllbahhkeglfaaW.PrintWords Go.Proofs.YtjllbahhkeglfaaW.PrintLast Go.Proofs.YtjllbahhkeglfaaW.PrintMore
attribute [local go_sem] max2_int min2_int max_two min_two max_three min_three max_four min_four
set_option linter.unusedVariables false
set_option linter.unusedSimpArgs false

/-! ### spec_plNumbers: function 139 -/
def spec_plNumbers.l0 : Nat → List Int → List Bool → Int → Int → Option (List Int)
 | 0, _, _, _, _ => none
 | k + 1, x3, x6, x7, x8 => if x8 < x7 then (if 0 ≤ x8 then (if x8 < (x6.length : Int) then (if rdOf false x6 x8 = true then (if x3.length < 17592186044416 then (spec_plNumbers.l0 k (x3 ++ [x8]) x6 x7 (wrap64 (x8 + 1))) else (none)) else (spec_plNumbers.l0 k x3 x6 x7 (wrap64 (x8 + 1)))) else (none)) else (none)) else (some x3)
def spec_plNumbers.f (k : Nat) (l0 : List Bool) : Option (List Int) := spec_plNumbers.l0 k ([] : List Int) l0 (l0.length : Int) 0
theorem spec_plNumbers.mono_l : ∀ k, (∀ y0 y1 y2 y3, LeO (spec_plNumbers.l0 k y0 y1 y2 y3) (spec_plNumbers.l0 (k + 1) y0 y1 y2 y3))
 | 0 => fun _ _ _ _ r h => by simp [spec_plNumbers.l0] at h
 | k + 1 => by
   have ih0 := spec_plNumbers.mono_l k
   · intro y0 y1 y2 y3
     unfold spec_plNumbers.l0
     repeat' first
     | (with_reducible exact ih0 _ _ _ _)
     | (with_reducible exact LeO.refl _)
     | (with_reducible exact LeO.none _)
     | (with_reducible refine LeO.ite ?_ ?_)
     | (with_reducible refine LeO.bind ?_ (fun _ => ?_))
     | exact ih0 _ _ _ _
     | exact LeO.none _
     | refine LeO.ite ?_ ?_
     | refine LeO.bind ?_ (fun _ => ?_)
theorem spec_plNumbers.mono : ∀ a0 k, LeO (spec_plNumbers.f k a0) (spec_plNumbers.f (k + 1) a0) := by
 intro a0 k
 have ih0 := spec_plNumbers.mono_l k
 unfold spec_plNumbers.f
 repeat' first
  | (with_reducible exact ih0 _ _ _ _)
  | (with_reducible exact LeO.refl _)
  | (with_reducible exact LeO.none _)
  | (with_reducible refine LeO.ite ?_ ?_)
  | (with_reducible refine LeO.bind ?_ (fun _ => ?_))
  | exact ih0 _ _ _ _
  | exact LeO.none _
  | refine LeO.ite ?_ ?_
  | refine LeO.bind ?_ (fun _ => ?_)
set_option maxHeartbeats 8000000 in
set_option maxRecDepth 100000 in
theorem spec_plNumbers.calls (k : Nat) (A0 : Option Addr) (c0 : Nat) (l0 : List Bool) (r : List Int) (w : World) (hr0 : Kd.C Kd.bool w A0 l0.length l0) (hc0 : l0.length ≤ c0) (h : spec_plNumbers.f k l0 = some r) :
 Calls Try.prog 139 #[.slice A0 l0.length c0] w fun e w' => ∃ v0_ : Value, e = .returned (v0_) ∧ Kd.R (Kd.int .i64) 3 w' w.heap.size (fun _ => True) v0_ r ∧ Below w.heap.size w w' := by
 have HR0 := Aside0.mk hr0
 have HC0 := Aside0.mk hc0
 clear hr0 hc0
 have HB := Aside0.mk (Below.refl w.heap.size w)
 have H : (spec_plNumbers.l0 k ([] : List Int) l0 (l0.length : Int) 0) = some r := h
 clear h
 have H' := Aside0.mk H
 clear H
 go_enter Try.func139, Try.ntmps139
 go_wp2
 go_loopg [3, 8] k (fun kq v3 v8 w' => ∃ (x3_1 : List Int) (x8_1 : Int), v8 = .int .i64 x8_1 ∧ Aside0 (spec_plNumbers.l0 kq x3_1 l0 (l0.length : Int) x8_1 = some r) ∧ Aside0 (kq ≤ k) ∧ Aside0 (Kd.R (Kd.int .i64) 3 w' w.heap.size (fun _ => True) v3 x3_1) ∧ Aside0 (Below w.heap.size w w'))
 case atStart => exact ⟨(([] : List Int)), (0), (by first | rfl | (simp; done) | (simp [*]; done)), H', ⟨Nat.le_refl _⟩, ⟨by first | exact Kd.R_nil _ _ _ _ _ | exact Kd.N_nil _ _ _ _ _ | exact Kd.V_nil _ _ _ _ _ | exact Kd.Q_nil _ _ _ _ _ | exact Kd.S_nil _ _ _ _ _⟩, ⟨by repeat (first | (with_reducible first | exact HB.out | apply below_alloc | apply pw_below_drewN | apply below_drew1) | exact HB.out)⟩⟩
 case round =>
  clear H'
  try clear c1
  obtain ⟨x3_1, x8_1, rfl, HA, HK1, HO_3, HB⟩ := hrel
  cases gk with
  | zero => exact absurd HA.out (by simp [spec_plNumbers.l0])
  | succ k1 =>
    have H := HA.out
    clear HA
    simp only [spec_plNumbers.l0] at H
    by_cases c2 : x8_1 < (l0.length : Int)
    · rw [if_pos c2] at H
      have c2b0 : decide (x8_1 < (l0.length : Int)) = true := decide_eq_true c2
      clear c2
      by_cases c3 : 0 ≤ x8_1
      · rw [if_pos c3] at H
        have c3b0 : decide (0 ≤ x8_1) = true := decide_eq_true c3
        clear c3
        by_cases c4 : x8_1 < (l0.length : Int)
        · rw [if_pos c4] at H
          have c4b0 : decide (x8_1 < (l0.length : Int)) = true := decide_eq_true c4
          clear c4
          obtain ⟨bq5, hbq5⟩ : ∃ b_ : Bool, b_ = (rdOf false l0 x8_1) := ⟨_, rfl⟩
          replace H : (if bq5 = true then (if x3_1.length < 17592186044416 then (spec_plNumbers.l0 k1 (x3_1 ++ [x8_1]) l0 (l0.length : Int) (wrap64 (x8_1 + 1))) else (none)) else (spec_plNumbers.l0 k1 x3_1 l0 (l0.length : Int) (wrap64 (x8_1 + 1)))) = some r := by rw [← hbq5] at H; exact H
          have Nbq5 := Aside0.mk hbq5
          clear hbq5
          by_cases c6 : bq5 = true
          · subst c6
            have H1 : (if x3_1.length < 17592186044416 then (spec_plNumbers.l0 k1 (x3_1 ++ [x8_1]) l0 (l0.length : Int) (wrap64 (x8_1 + 1))) else (none)) = some r := by rw [if_pos rfl] at H; exact H
            clear H
            have H := H1
            clear H1
            by_cases c7 : x3_1.length < 17592186044416
            · rw [if_pos c7] at H
              have LMc7 := Aside0.mk c7
              clear c7
              obtain ⟨y102, hy102⟩ : ∃ y_ : List Int, y_ = (x3_1 ++ [x8_1]) := ⟨_, rfl⟩
              replace H : (spec_plNumbers.l0 k1 y102 l0 (l0.length : Int) (wrap64 (x8_1 + 1))) = some r := by first | (rw [hy102]; with_reducible exact H) | (have H2_ := (Option.bind_some _ _).symm.trans H; rw [hy102]; with_reducible exact H2_) | (have H2_ := (Option.bind_some _ _).symm.trans H; with_reducible exact H2_) | with_reducible exact H | (rw [hy102]; exact H) | exact H
              have Ny102 := Aside0.mk hy102
              clear hy102
              have H' := Aside0.mk H
              clear H
              have p101 : 0 ≤ (x8_1 : Int) := of_decide_eq_true (by first | (with_reducible assumption) | assumption)
              have q101 : x8_1 < (l0.length : Int) := of_decide_eq_true (by first | (with_reducible assumption) | assumption)
              obtain ⟨ad101, e101, hx101_0⟩ := Kd.at_bool HR0.out x8_1 p101 q101
              (try rw [← Nbq5.out] at hx101_0)
              cases e101
              replace hx101_0 := (HB.out.cell (World.block_lt_of_cell? w _ hx101_0)).trans hx101_0
              replace p101 := eq_true p101
              replace q101 := eq_true q101
              go_wp2_with (first | ((with_reducible refine gate_builtin (b := .append) (xs := #[.tmp 14, .tmp 16]) rfl ?_); at_builtin; refine Kd.R_append (Kd.int .i64) (w0 := w) w.heap.size rfl (.tmp 14) (.tmp 16) 28 3 (.int .i64 0) 8 rfl Try.underlying28 info3 rfl (by decide) (by omega) u3 x3_1 x8_1 [.int .i64 x8_1] (fun _ => True) (fun _ => False) rfl rfl ?aP (fun _ hk => hk.elim) ?aF ?aO ?aB ?aS ?aL ?_; (case aP => exact rfl); (case aB => exact (by repeat (first | (with_reducible first | exact HB.out | apply below_alloc | apply pw_below_drewN | apply below_drew1) | exact HB.out))); (case aF => exact (fun _ _ => trivial)); (case aO => exact (by (with_reducible repeat (first | apply Kd.R_alloc | apply Kd.R_drewN | apply Kd.R_drew)); exact HO_3.out)); (case aS => exact (below_size (by repeat (first | (with_reducible first | exact HB.out | apply below_alloc | apply pw_below_drewN | apply below_drew1) | exact HB.out)))); (case aL => have := LMc7.out; omega); intro v103 w8 ho hb hg hat; rw [← Ny102.out] at ho; have n0_ := Aside0.mk (hb); have n1_ := Aside0.mk (ho); clear HB; clear HO_3; have HB := n0_; have HO104 := n1_; clear n0_ n1_; clear ho hb hg hat))
              go_roundg k1
              case measure => have := HK1.out; omega
              case rel => exact ⟨(y102), (wrap64 (x8_1 + 1)), (by first | rfl | (simp; done) | (simp [*]; done)), H', ⟨by have := HK1.out; omega⟩, ⟨by (with_reducible repeat (first | apply Kd.R_alloc | apply Kd.R_drewN | apply Kd.R_drew)); exact HO104.out⟩, ⟨by repeat (first | (with_reducible first | exact HB.out | apply below_alloc | apply pw_below_drewN | apply below_drew1) | exact HB.out)⟩⟩
            · rw [if_neg c7] at H
              exact absurd H (by simp)
          · replace c6 := Bool.eq_false_iff.mpr c6
            subst c6
            have H1 : (spec_plNumbers.l0 k1 x3_1 l0 (l0.length : Int) (wrap64 (x8_1 + 1))) = some r := by rw [if_neg (show ¬ (false = true) by decide)] at H; exact H
            clear H
            have H := H1
            clear H1
            have H' := Aside0.mk H
            clear H
            have p101 : 0 ≤ (x8_1 : Int) := of_decide_eq_true (by first | (with_reducible assumption) | assumption)
            have q101 : x8_1 < (l0.length : Int) := of_decide_eq_true (by first | (with_reducible assumption) | assumption)
            obtain ⟨ad101, e101, hx101_0⟩ := Kd.at_bool HR0.out x8_1 p101 q101
            (try rw [← Nbq5.out] at hx101_0)
            cases e101
            replace hx101_0 := (HB.out.cell (World.block_lt_of_cell? w _ hx101_0)).trans hx101_0
            replace p101 := eq_true p101
            replace q101 := eq_true q101
            go_wp2
            go_roundg k1
            case measure => have := HK1.out; omega
            case rel => exact ⟨(x3_1), (wrap64 (x8_1 + 1)), (by first | rfl | (simp; done) | (simp [*]; done)), H', ⟨by have := HK1.out; omega⟩, ⟨by (with_reducible repeat (first | apply Kd.R_alloc | apply Kd.R_drewN | apply Kd.R_drew)); exact HO_3.out⟩, ⟨by repeat (first | (with_reducible first | exact HB.out | apply below_alloc | apply pw_below_drewN | apply below_drew1) | exact HB.out)⟩⟩
        · rw [if_neg c4] at H
          exact absurd H (by simp)
      · rw [if_neg c3] at H
        exact absurd H (by simp)
    · rw [if_neg c2] at H
      have c2b0 : decide (x8_1 < (l0.length : Int)) = false := decide_eq_false c2
      clear c2
      obtain rfl := Option.some.inj H
      go_wp2
      go_ret
      exact ⟨_, by first | rfl | (simp [errW_none, errW_some] <;> rfl) | (simp [*, errW_none, errW_some] <;> rfl), by (with_reducible repeat (first | apply Kd.R_alloc | apply Kd.R_drewN | apply Kd.R_drew)); exact HO_3.out, by repeat (first | (with_reducible first | exact HB.out | apply below_alloc | apply pw_below_drewN | apply below_drew1) | exact HB.out)⟩

end Go.Proofs.Ytjllbahhkeglfaa.P
