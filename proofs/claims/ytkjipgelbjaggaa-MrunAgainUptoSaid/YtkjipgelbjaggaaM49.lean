/- Walk: MrunAgain, behind the third run. -/
import Derived.Test.YtkjipgelbjaggaaM46
import Derived.Test.YtkjipgelbjaggaaM48
import Derived.Deep.Cut
import Derived.BigGuardPart
set_option linter.unusedSimpArgs false
set_option linter.unusedVariables false
namespace Go.Proofs.Ytkjipgelbjaggaa
open Go.RowKit Go.Maps
def dropS : Nat → Code → Code
  | 0, c => c
  | n + 1, .seq _ b => dropS n b
  | _ + 1, c => c
noncomputable def againC2 : Code := dropS 8 (Try.f3.body.getD .skip)
set_option maxRecDepth 4000 in
theorem slice_take (a : Option Addr) (n c k : Nat) (h : k ≤ c) (W : World) : (Instr.slice 35 (.slice a n c) none (some (.int .i64 (k : Int))) none).run Try.prog W = .ok (.slice a k c) W := by
  rw [run_slice_h (P := Try.prog) W 35 a n c Try.underlying35 .i64 (k : Int) (by omega) (by omega)]
  have hi : (Try.prog.info? 93).map (·.size) = some 2 := by kernel_rfl
  have he : Try.prog.elem 35 = 93 := by kernel_rfl
  rw [he]
  obtain ⟨i, hi1, hi2⟩ : ∃ i, Try.prog.info? 93 = some i ∧ i.size = 2 := by
    cases hx : Try.prog.info? 93 with
    | none => rw [hx] at hi; cases hi
    | some i => rw [hx] at hi; exact ⟨i, rfl, by simpa using hi⟩
  cases a with
  | none => simp [sizeOf, typeInfo, hi1, sliced]
  | some b => simp [sizeOf, typeInfo, hi1, sliced, Addr.add]
section
variable (w Y : World) (m : Machine) (A1 A2 : Option Addr) (n1 c1 n2 c2 : Nat) (t : Target) (A : Option Addr) (n c : Nat) (A3 A4 A5 : Option Addr) (n3 c3 n4 c4 n5 c5 : Nat) (fuel k : Int) (xa xb xd : ResS)
  (bm bt bs ga gb gc : Nat) (Ca Ma Cb Cc Mc : Option Addr) (nca cca nma cma ncb ccb ccc cmc : Nat) (FY : Hd (Below w.heap.size w Y)) (hY0 : w.heap.size ≤ Y.heap.size) (l1 : bm < Y.heap.size) (l2 : bt < Y.heap.size) (l3 : bs < Y.heap.size) (l4 : ga < Y.heap.size) (l5 : gb < Y.heap.size) (l6 : gc < Y.heap.size)
  (p0 : Y.cell? ⟨bm, 0, none⟩ = some (.int .i64 m.regs)) (p1 : Y.cell? ⟨bm, 1, none⟩ = some (.slice A1 n1 c1)) (p2 : Y.cell? ⟨bm, 2, none⟩ = some (.int .i64 m.ret)) (p3 : Y.cell? ⟨bm, 3, none⟩ = some (.slice A2 n2 c2)) (q0 : Y.cell? ⟨bt, 0, none⟩ = some (.int .i64 t.frame)) (q1 : Y.cell? ⟨bt, 1, none⟩ = some (.slice A n c)) (s0 : Y.cell? ⟨bs, 0, none⟩ = some (.slice A3 n3 c3)) (s1 : Y.cell? ⟨bs, 1, none⟩ = some (.slice A4 n4 c4)) (s2 : Y.cell? ⟨bs, 2, none⟩ = some (.slice A5 n5 c5)) (a0 : Y.cell? ⟨ga, 0, none⟩ = some (.int .i64 xa.fin)) (a1 : Y.cell? ⟨ga, 1, none⟩ = some (.int .i64 xa.value)) (a2 : Y.cell? ⟨ga, 2, none⟩ = some (.slice Ca nca cca)) (a3 : Y.cell? ⟨ga, 3, none⟩ = some (.slice Ma nma cma)) (a4 : Y.cell? ⟨ga, 4, none⟩ = some (.int .i64 xa.steps)) (b0 : Y.cell? ⟨gb, 0, none⟩ = some (.int .i64 xb.fin)) (b2 : Y.cell? ⟨gb, 2, none⟩ = some (.slice Cb ncb ccb)) (b4 : Y.cell? ⟨gb, 4, none⟩ = some (.int .i64 xb.steps)) (c0_ : Y.cell? ⟨gc, 0, none⟩ = some (.int .i64 xa.fin)) (c1_ : Y.cell? ⟨gc, 1, none⟩ = some (.int .i64 xa.value)) (c2_ : Y.cell? ⟨gc, 2, none⟩ = some (.slice Cc nca ccc)) (c3_ : Y.cell? ⟨gc, 3, none⟩ = some (.slice Mc nma cmc))
  (HCa : Hd (Sl Y (fun _ => True) Ca nca cca xa.calls)) (HMa : Hd (Sl Y (fun _ => True) Ma nma cma xa.mem)) (HCb : Hd (Sl Y (fun _ => True) Cb ncb ccb xb.calls)) (HCc : Hd (Sl Y (fun _ => True) Cc nca ccc xa.calls)) (HMc : Hd (Sl Y (fun _ => True) Mc nma cmc xa.mem))
  (hst : xb.steps ≤ xa.steps) (hsf : xa.steps ≤ fuel) (D3 : xb.fin = 0 ∨ ¬ xb.fin = 0 ∧ xb.fin = xa.fin)
  (D4 : (xa.steps < k ∧ xb.steps = xa.steps) ∨ (k ≤ xa.steps ∧ xb.steps = k))
  (hcl : ncb ≤ nca) (HTK : Hd (xa.calls.take ncb = xb.calls)) (HNA : Hd (nca = xa.calls.length))
  (HGO4 : Hd (∀ V', Below Y.heap.size Y V' → ∀ g, Sl V' (fun _ => True) (some ⟨g, 0, none⟩) 3 3 ([5, 6, 7] : List Int) → Calls Try.prog 11 #[.agg #[.int .i64 m.regs, .slice A1 n1 c1, .int .i64 m.ret, .slice A2 n2 c2], .agg #[.int .i64 t.frame, .slice A n c], .slice A3 n3 c3, .slice A4 n4 c4, .slice A5 n5 c5, .slice (some ⟨g, 0, none⟩) 3 3, .int .i64 fuel] V' (RetGo xd 0 V')))
  (HRD : Hd (∀ V', Below Y.heap.size Y V' → Calls Try.prog 15 #[.agg #[.int .i64 m.regs, .slice A1 n1 c1, .int .i64 m.ret, .slice A2 n2 c2], .agg #[.int .i64 t.frame, .slice A n c]] V' (RetX (.bool (readsB m t)) V')))
  (HFST : Hd (readsB m t = false → xd.fin = xa.fin ∧ xd.value = xa.value ∧ xd.calls = xa.calls ∧ xd.steps = xa.steps))
include FY hY0 l1 l2 l3 l4 l5 l6 p0 p1 p2 p3 q0 q1 s0 s1 s2 a0 a1 a2 a3 a4 b0 b2 b4 c0_ c1_ c2_ c3_ HCa HMa HCb HCc HMc hst hsf D3 D4 hcl HTK HNA HGO4 HRD HFST
set_option maxHeartbeats 40000000 in
set_option maxRecDepth 100000 in
theorem again2 (c : Code) (hc : againC2 = c) (s0_ s1_ s2_ s4_ s8_ s9_ s10_ s12_ s15_ s17_ s18_ s19_ s20_ s21_ s22_ s23_ s24_ s25_ s26_ s27_ s28_ s29_ s30_ s31_ s32_ s33_ s34_ s35_ s36_ s37_ s38_ s39_ s40_ s41_ s42_ s43_ s44_ s45_ s46_ s47_ s48_ s49_ s50_ s51_ s52_ s53_ s54_ s55_ s56_ s57_ s58_ s59_ s60_ s61_ s62_ s63_ s64_ s65_ s66_ s67_ s68_ s69_ s70_ s71_ s72_ s73_ s74_ s75_ s76_ s77_ s78_ s79_ s80_ s81_ s82_ s83_ s84_ s85_ s86_ s87_ s88_ s89_ s90_ s91_ s92_ s93_ s94_ s95_ s96_ s97_ s98_ s99_ s100_ s101_ s102_ s103_ s104_ s105_ s106_ s107_ s108_ s109_ s110_ s111_ s112_ s113_ s114_ s115_ s116_ s117_ s118_ s119_ s120_ s121_ s122_ s123_ s124_ s125_ s126_ s127_ s128_ s129_ s130_ s131_ s132_ s133_ s134_ s135_ s136_ s137_ s138_ s139_ s140_ s141_ s142_ s143_ s144_ s145_ s146_ s147_ s148_ s149_ s150_ s151_ s152_ s153_ s154_ s155_ s156_ s157_ s158_ s159_ s160_ s161_ s162_ s163_ s164_ s165_ s166_ s167_ s168_ s169_ s170_ s171_ s172_ s173_ s174_ s175_ s176_ s177_ s178_ s179_ s180_ s181_ s182_ s183_ s184_ s185_ s186_ s187_ s188_ s189_ s190_ s191_ s192_ s193_ s194_ s195_ s196_ s197_ s198_ s199_ s200_ s201_ s202_ s203_ s204_ s205_ s206_ s207_ s208_ s209_ s210_ s211_ s212_ s213_ s214_ s215_ s216_ s217_ s218_ s219_ s220_ s221_ s222_ s223_ s224_ s225_ s226_ s227_ s228_ s229_ s230_ s231_ s232_ s233_ s234_ s235_ s236_ s237_ s238_ s239_ s240_ : Value) :
    Code.wp Try.prog c (bodyPost Try.prog Try.f3 (RetX (.bool true) w)) ⟨#[s0_, s1_, s2_, .int .i64 fuel, s4_, .pointer (some ⟨bm, 0, none⟩), .pointer (some ⟨bt, 0, none⟩), .pointer (some ⟨bs, 0, none⟩), s8_, s9_, s10_, .pointer (some ⟨ga, 0, none⟩), s12_, .int .i64 k, .pointer (some ⟨gb, 0, none⟩), s15_, .pointer (some ⟨gc, 0, none⟩), s17_, s18_, s19_, s20_, s21_, s22_, s23_, s24_, s25_, s26_, s27_, s28_, s29_, s30_, s31_, s32_, s33_, s34_, s35_, s36_, s37_, s38_, s39_, s40_, s41_, s42_, s43_, s44_, s45_, s46_, s47_, s48_, s49_, s50_, s51_, s52_, s53_, s54_, s55_, s56_, s57_, s58_, s59_, s60_, s61_, s62_, s63_, s64_, s65_, s66_, s67_, s68_, s69_, s70_, s71_, s72_, s73_, s74_, s75_, s76_, s77_, s78_, s79_, s80_, s81_, s82_, s83_, s84_, s85_, s86_, s87_, s88_, s89_, s90_, s91_, s92_, s93_, s94_, s95_, s96_, s97_, s98_, s99_, s100_, s101_, s102_, s103_, s104_, s105_, s106_, s107_, s108_, s109_, s110_, s111_, s112_, s113_, s114_, s115_, s116_, s117_, s118_, s119_, s120_, s121_, s122_, s123_, s124_, s125_, s126_, s127_, s128_, s129_, s130_, s131_, s132_, s133_, s134_, s135_, s136_, s137_, s138_, s139_, s140_, s141_, s142_, s143_, s144_, s145_, s146_, s147_, s148_, s149_, s150_, s151_, s152_, s153_, s154_, s155_, s156_, s157_, s158_, s159_, s160_, s161_, s162_, s163_, s164_, s165_, s166_, s167_, s168_, s169_, s170_, s171_, s172_, s173_, s174_, s175_, s176_, s177_, s178_, s179_, s180_, s181_, s182_, s183_, s184_, s185_, s186_, s187_, s188_, s189_, s190_, s191_, s192_, s193_, s194_, s195_, s196_, s197_, s198_, s199_, s200_, s201_, s202_, s203_, s204_, s205_, s206_, s207_, s208_, s209_, s210_, s211_, s212_, s213_, s214_, s215_, s216_, s217_, s218_, s219_, s220_, s221_, s222_, s223_, s224_, s225_, s226_, s227_, s228_, s229_, s230_, s231_, s232_, s233_, s234_, s235_, s236_, s237_, s238_, s239_, s240_], []⟩ Y := by
  subst hc
  conv => arg 2; whnf
  simp only [List.cons_append, List.nil_append, List.append_eq]
  have hca63 := HCa.out.nle
  have hcacap := HCa.out.2.1
  have KC1 := hide (fun (W : World) (hW : Below Y.heap.size Y W) => sameCalls_any W (fun _ => True) (fun _ => True) Cc Ca nca ccc cca xa.calls (HCc.out.belowAll hW) (HCa.out.belowAll hW))
  have KC2 := hide (fun (W : World) (hW : Below Y.heap.size Y W) => sameInts_any W (fun _ => True) (fun _ => True) Mc Ma nma cmc cma xa.mem (HMc.out.belowAll hW) (HMa.out.belowAll hW))
  have KC3 := hide (fun (W : World) (hW : Below Y.heap.size Y W) => sameCalls_any W (fun _ => True) (fun _ => True) Cb Ca ncb ccb cca xb.calls (HCb.out.belowAll hW) (HTK.out ▸ (HCa.out.belowAll hW).take_ hcl))
  go_upto_region 11 with (fail)
  go_cut [176] from 20 (fun s176 wc => s176 = .bool false ∧ ∃ u : Ext, wc = Y.ext u)
  case first =>
    have hd1 : xb.steps ≤ xa.steps := hst
    rcases D3 with y1 | ⟨y1, y2⟩
    case inl =>
      rcases D4 with ⟨e1, e2⟩ | ⟨e1, e2⟩
      case inl =>
        go_wp2_with (first | (go_at_call 13; (with_reducible refine (KC1.out _ (by repeat (first | exact Below.refl _ _ | assumption | refine Below.alloc ?_ (by simp [size_ext]; try omega) _ | refine Below.ext ?_ (by simp [size_ext]; try omega) _ | refine Below.drew ?_ | refine Below.setCell ?_ (by simp [size_ext]; try omega) _))).mono ?_); rintro e _ ⟨rfl, ux, rfl⟩) | (go_at_call 14; (with_reducible refine (KC2.out _ (by repeat (first | exact Below.refl _ _ | assumption | refine Below.alloc ?_ (by simp [size_ext]; try omega) _ | refine Below.ext ?_ (by simp [size_ext]; try omega) _ | refine Below.drew ?_ | refine Below.setCell ?_ (by simp [size_ext]; try omega) _))).mono ?_); rintro e _ ⟨rfl, ux, rfl⟩))
        all_goals first
          | (exfalso; omega)
          | (go_meet; exact ⟨rfl, Below.to_ext (by repeat (first | exact Below.refl _ _ | assumption | refine Below.alloc ?_ (by simp [size_ext]; try omega) _ | refine Below.ext ?_ (by simp [size_ext]; try omega) _ | refine Below.drew ?_ | refine Below.setCell ?_ (by simp [size_ext]; try omega) _))⟩)
      case inr =>
        go_wp2_with (first | (go_at_call 13; (with_reducible refine (KC1.out _ (by repeat (first | exact Below.refl _ _ | assumption | refine Below.alloc ?_ (by simp [size_ext]; try omega) _ | refine Below.ext ?_ (by simp [size_ext]; try omega) _ | refine Below.drew ?_ | refine Below.setCell ?_ (by simp [size_ext]; try omega) _))).mono ?_); rintro e _ ⟨rfl, ux, rfl⟩) | (go_at_call 14; (with_reducible refine (KC2.out _ (by repeat (first | exact Below.refl _ _ | assumption | refine Below.alloc ?_ (by simp [size_ext]; try omega) _ | refine Below.ext ?_ (by simp [size_ext]; try omega) _ | refine Below.drew ?_ | refine Below.setCell ?_ (by simp [size_ext]; try omega) _))).mono ?_); rintro e _ ⟨rfl, ux, rfl⟩))
        all_goals first
          | (exfalso; omega)
          | (go_meet; exact ⟨rfl, Below.to_ext (by repeat (first | exact Below.refl _ _ | assumption | refine Below.alloc ?_ (by simp [size_ext]; try omega) _ | refine Below.ext ?_ (by simp [size_ext]; try omega) _ | refine Below.drew ?_ | refine Below.setCell ?_ (by simp [size_ext]; try omega) _))⟩)
    case inr =>
      rcases D4 with ⟨e1, e2⟩ | ⟨e1, e2⟩
      case inl =>
        go_wp2_with (first | (go_at_call 13; (with_reducible refine (KC1.out _ (by repeat (first | exact Below.refl _ _ | assumption | refine Below.alloc ?_ (by simp [size_ext]; try omega) _ | refine Below.ext ?_ (by simp [size_ext]; try omega) _ | refine Below.drew ?_ | refine Below.setCell ?_ (by simp [size_ext]; try omega) _))).mono ?_); rintro e _ ⟨rfl, ux, rfl⟩) | (go_at_call 14; (with_reducible refine (KC2.out _ (by repeat (first | exact Below.refl _ _ | assumption | refine Below.alloc ?_ (by simp [size_ext]; try omega) _ | refine Below.ext ?_ (by simp [size_ext]; try omega) _ | refine Below.drew ?_ | refine Below.setCell ?_ (by simp [size_ext]; try omega) _))).mono ?_); rintro e _ ⟨rfl, ux, rfl⟩))
        all_goals first
          | (exfalso; omega)
          | (go_meet; exact ⟨rfl, Below.to_ext (by repeat (first | exact Below.refl _ _ | assumption | refine Below.alloc ?_ (by simp [size_ext]; try omega) _ | refine Below.ext ?_ (by simp [size_ext]; try omega) _ | refine Below.drew ?_ | refine Below.setCell ?_ (by simp [size_ext]; try omega) _))⟩)
      case inr =>
        go_wp2_with (first | (go_at_call 13; (with_reducible refine (KC1.out _ (by repeat (first | exact Below.refl _ _ | assumption | refine Below.alloc ?_ (by simp [size_ext]; try omega) _ | refine Below.ext ?_ (by simp [size_ext]; try omega) _ | refine Below.drew ?_ | refine Below.setCell ?_ (by simp [size_ext]; try omega) _))).mono ?_); rintro e _ ⟨rfl, ux, rfl⟩) | (go_at_call 14; (with_reducible refine (KC2.out _ (by repeat (first | exact Below.refl _ _ | assumption | refine Below.alloc ?_ (by simp [size_ext]; try omega) _ | refine Below.ext ?_ (by simp [size_ext]; try omega) _ | refine Below.drew ?_ | refine Below.setCell ?_ (by simp [size_ext]; try omega) _))).mono ?_); rintro e _ ⟨rfl, ux, rfl⟩))
        all_goals first
          | (exfalso; omega)
          | (go_meet; exact ⟨rfl, Below.to_ext (by repeat (first | exact Below.refl _ _ | assumption | refine Below.alloc ?_ (by simp [size_ext]; try omega) _ | refine Below.ext ?_ (by simp [size_ext]; try omega) _ | refine Below.drew ?_ | refine Below.setCell ?_ (by simp [size_ext]; try omega) _))⟩)
  case rest =>
  obtain ⟨rfl, u, hwc⟩ := hcut
  have HFwc := hide (show Below Y.heap.size Y wc by rw [hwc]; exact Below.of_ext _ _ (Nat.le_refl _))
  have hswc : Y.heap.size ≤ wc.heap.size := HFwc.out.size
  clear hwc
  have p0_wc : wc.cell? ⟨bm, 0, none⟩ = some (.int .i64 m.regs) := by rw [HFwc.out.cell l1]; exact p0
  have p1_wc : wc.cell? ⟨bm, 1, none⟩ = some (.slice A1 n1 c1) := by rw [HFwc.out.cell l1]; exact p1
  have p2_wc : wc.cell? ⟨bm, 2, none⟩ = some (.int .i64 m.ret) := by rw [HFwc.out.cell l1]; exact p2
  have p3_wc : wc.cell? ⟨bm, 3, none⟩ = some (.slice A2 n2 c2) := by rw [HFwc.out.cell l1]; exact p3
  have q0_wc : wc.cell? ⟨bt, 0, none⟩ = some (.int .i64 t.frame) := by rw [HFwc.out.cell l2]; exact q0
  have q1_wc : wc.cell? ⟨bt, 1, none⟩ = some (.slice A n c) := by rw [HFwc.out.cell l2]; exact q1
  have s0_wc : wc.cell? ⟨bs, 0, none⟩ = some (.slice A3 n3 c3) := by rw [HFwc.out.cell l3]; exact s0
  have s1_wc : wc.cell? ⟨bs, 1, none⟩ = some (.slice A4 n4 c4) := by rw [HFwc.out.cell l3]; exact s1
  have s2_wc : wc.cell? ⟨bs, 2, none⟩ = some (.slice A5 n5 c5) := by rw [HFwc.out.cell l3]; exact s2
  have a0_wc : wc.cell? ⟨ga, 0, none⟩ = some (.int .i64 xa.fin) := by rw [HFwc.out.cell l4]; exact a0
  have a1_wc : wc.cell? ⟨ga, 1, none⟩ = some (.int .i64 xa.value) := by rw [HFwc.out.cell l4]; exact a1
  have a2_wc : wc.cell? ⟨ga, 2, none⟩ = some (.slice Ca nca cca) := by rw [HFwc.out.cell l4]; exact a2
  have a3_wc : wc.cell? ⟨ga, 3, none⟩ = some (.slice Ma nma cma) := by rw [HFwc.out.cell l4]; exact a3
  have a4_wc : wc.cell? ⟨ga, 4, none⟩ = some (.int .i64 xa.steps) := by rw [HFwc.out.cell l4]; exact a4
  have b2_wc : wc.cell? ⟨gb, 2, none⟩ = some (.slice Cb ncb ccb) := by rw [HFwc.out.cell l5]; exact b2
  have l1_wc : bm < wc.heap.size := by omega
  have l2_wc : bt < wc.heap.size := by omega
  have l3_wc : bs < wc.heap.size := by omega
  have l4_wc : ga < wc.heap.size := by omega
  have l5_wc : gb < wc.heap.size := by omega
  clear p0 p1 p2 p3 q0 q1 s0 s1 s2 a0 a1 a2 a3 a4 b0 b2 b4 c0_ c1_ c2_ c3_ D3 D4
  have hsl : ∀ W : World, (Instr.slice 35 (.slice Ca nca cca) none (some (.int .i64 (ncb : Int))) none).run Try.prog W = .ok (.slice Ca ncb cca) W := fun W => slice_take Ca nca cca ncb (by omega) W
  have d7 : decide ((ncb : Int) > nca) = false := by simp; omega
  go_wp2_with fail
  refine wp_region_ext (by kernel_rfl) (by kernel_rfl) ?_
  repeat (any_goals (first | go_big_quiet_step (((go_at_call 13; with_reducible exact quiet_retx (KC3.out _ (HFwc.out.ext hswc _))))) | quiet_step (((go_at_call 13; with_reducible exact quiet_retx (KC3.out _ (HFwc.out.ext hswc _)))))))
  refine wpQuiet_nil ?_
  rintro _ ⟨uq, rfl⟩
  clear d7
  by_cases hR : readsB m t = true
  case pos =>
    have HRDt := hide (show ∀ V', Below Y.heap.size Y V' → Calls Try.prog 15 #[.agg #[.int .i64 m.regs, .slice A1 n1 c1, .int .i64 m.ret, .slice A2 n2 c2], .agg #[.int .i64 t.frame, .slice A n c]] V' (RetX (.bool true) V') from fun V' hV' => hR ▸ HRD.out V' hV')
    clear HRD HFST hR
    go_wp2_with fail
    refine (HGO4.out _ (by repeat (first | exact Below.refl _ _ | assumption | exact Hd.out (by assumption) | refine Below.alloc ?_ (by first | omega | (simp [size_ext]; try omega)) _ | refine Below.ext ?_ (by first | omega | (simp [size_ext]; try omega)) _ | refine Below.drew ?_ | refine Below.setCell ?_ (by first | omega | (simp [size_ext]; try omega)) _)) _ ?_).mono ?_
    · exact Sl.lit (us := [.int .i64 5, .int .i64 6, .int .i64 7]) (by simp [size_ext]) (RepL.ints (S := fun _ => True) [5, 6, 7] (by intro x hx; simp at hx; rcases hx with rfl | rfl | rfl <;> (unfold InI; omega))) rfl (by decide) (fun _ _ => trivial) trivial
    rintro e _ ⟨Cd, ccd, Md, cmd, Scd, rfl, hc, hmm, _, ud, rfl⟩
    clear hc hmm
    obtain ⟨D, hD⟩ : ∃ D, D = ((wc.ext uq).alloc (.cells #[.int .i64 5, .int .i64 6, .int .i64 7] 3)).ext ud := ⟨_, rfl⟩
    have HFD := hide (show Below wc.heap.size wc D by rw [hD]; exact ((Below.of_ext _ _ (Nat.le_refl _)).alloc (by simp only [size_ext]; omega) _).ext (by simp only [size_ext, World.size_alloc]; omega) _)
    have hsD : Y.heap.size ≤ D.heap.size := Nat.le_trans hswc HFD.out.size
    have HYD := hide (show Below Y.heap.size Y D from HFwc.out.trans (HFD.out.mono hswc))
    rw [← hD]
    have p0_D : D.cell? ⟨bm, 0, none⟩ = some (.int .i64 m.regs) := by rw [HFD.out.cell l1_wc]; exact p0_wc
    have p1_D : D.cell? ⟨bm, 1, none⟩ = some (.slice A1 n1 c1) := by rw [HFD.out.cell l1_wc]; exact p1_wc
    have p2_D : D.cell? ⟨bm, 2, none⟩ = some (.int .i64 m.ret) := by rw [HFD.out.cell l1_wc]; exact p2_wc
    have p3_D : D.cell? ⟨bm, 3, none⟩ = some (.slice A2 n2 c2) := by rw [HFD.out.cell l1_wc]; exact p3_wc
    have q0_D : D.cell? ⟨bt, 0, none⟩ = some (.int .i64 t.frame) := by rw [HFD.out.cell l2_wc]; exact q0_wc
    have q1_D : D.cell? ⟨bt, 1, none⟩ = some (.slice A n c) := by rw [HFD.out.cell l2_wc]; exact q1_wc
    have s0_D : D.cell? ⟨bs, 0, none⟩ = some (.slice A3 n3 c3) := by rw [HFD.out.cell l3_wc]; exact s0_wc
    have s1_D : D.cell? ⟨bs, 1, none⟩ = some (.slice A4 n4 c4) := by rw [HFD.out.cell l3_wc]; exact s1_wc
    have s2_D : D.cell? ⟨bs, 2, none⟩ = some (.slice A5 n5 c5) := by rw [HFD.out.cell l3_wc]; exact s2_wc
    have a0_D : D.cell? ⟨ga, 0, none⟩ = some (.int .i64 xa.fin) := by rw [HFD.out.cell l4_wc]; exact a0_wc
    have a1_D : D.cell? ⟨ga, 1, none⟩ = some (.int .i64 xa.value) := by rw [HFD.out.cell l4_wc]; exact a1_wc
    have a2_D : D.cell? ⟨ga, 2, none⟩ = some (.slice Ca nca cca) := by rw [HFD.out.cell l4_wc]; exact a2_wc
    have a3_D : D.cell? ⟨ga, 3, none⟩ = some (.slice Ma nma cma) := by rw [HFD.out.cell l4_wc]; exact a3_wc
    have a4_D : D.cell? ⟨ga, 4, none⟩ = some (.int .i64 xa.steps) := by rw [HFD.out.cell l4_wc]; exact a4_wc
    have l1_D : bm < D.heap.size := by have := HFD.out.size; omega
    have l2_D : bt < D.heap.size := by have := HFD.out.size; omega
    have l3_D : bs < D.heap.size := by have := HFD.out.size; omega
    have l4_D : ga < D.heap.size := by have := HFD.out.size; omega
    clear hD
    go_wp2_with (go_at_call 15; (with_reducible refine (HRDt.out _ (by repeat (first | exact Below.refl _ _ | assumption | exact Hd.out (by assumption) | refine Below.alloc ?_ (by first | omega | (simp [size_ext]; try omega)) _ | refine Below.ext ?_ (by first | omega | (simp [size_ext]; try omega)) _ | refine Below.drew ?_ | refine Below.setCell ?_ (by first | omega | (simp [size_ext]; try omega)) _))).mono ?_); rintro e _ ⟨rfl, ux, rfl⟩)
    go_ret
    exact RetX.b rfl (FY.out.trans ((show Below Y.heap.size Y _ from (by repeat (first | exact Below.refl _ _ | assumption | exact Hd.out (by assumption) | refine Below.alloc ?_ (by first | omega | (simp [size_ext]; try omega)) _ | refine Below.ext ?_ (by first | omega | (simp [size_ext]; try omega)) _ | refine Below.drew ?_ | refine Below.setCell ?_ (by first | omega | (simp [size_ext]; try omega)) _))).mono hY0))
  case neg =>
    have HRDf := hide (show ∀ V', Below Y.heap.size Y V' → Calls Try.prog 15 #[.agg #[.int .i64 m.regs, .slice A1 n1 c1, .int .i64 m.ret, .slice A2 n2 c2], .agg #[.int .i64 t.frame, .slice A n c]] V' (RetX (.bool false) V') from fun V' hV' => by have := HRD.out V' hV'; rwa [Bool.eq_false_iff.2 hR] at this)
    have hfst := HFST.out (Bool.eq_false_iff.2 hR)
    have HG := hide hfst
    clear HRD HFST hR hfst
    go_wp2_with fail
    refine (HGO4.out _ (by repeat (first | exact Below.refl _ _ | assumption | exact Hd.out (by assumption) | refine Below.alloc ?_ (by first | omega | (simp [size_ext]; try omega)) _ | refine Below.ext ?_ (by first | omega | (simp [size_ext]; try omega)) _ | refine Below.drew ?_ | refine Below.setCell ?_ (by first | omega | (simp [size_ext]; try omega)) _)) _ ?_).mono ?_
    · exact Sl.lit (us := [.int .i64 5, .int .i64 6, .int .i64 7]) (by simp [size_ext]) (RepL.ints (S := fun _ => True) [5, 6, 7] (by intro x hx; simp at hx; rcases hx with rfl | rfl | rfl <;> (unfold InI; omega))) rfl (by decide) (fun _ _ => trivial) trivial
    rintro e _ ⟨Cd, ccd, Md, cmd, Scd, rfl, hc, hmm, _, ud, rfl⟩
    rw [HG.out.1, HG.out.2.1, HG.out.2.2.1, HG.out.2.2.2, ← HNA.out]
    rw [HG.out.2.2.1, ← HNA.out] at hc
    have HCd := hide (hc.slo (S' := fun _ => True) fun _ _ _ => trivial)
    clear hc hmm
    obtain ⟨D, hD⟩ : ∃ D, D = ((wc.ext uq).alloc (.cells #[.int .i64 5, .int .i64 6, .int .i64 7] 3)).ext ud := ⟨_, rfl⟩
    have HFD := hide (show Below wc.heap.size wc D by rw [hD]; exact ((Below.of_ext _ _ (Nat.le_refl _)).alloc (by simp only [size_ext]; omega) _).ext (by simp only [size_ext, World.size_alloc]; omega) _)
    have hsD : Y.heap.size ≤ D.heap.size := Nat.le_trans hswc HFD.out.size
    have HYD := hide (show Below Y.heap.size Y D from HFwc.out.trans (HFD.out.mono hswc))
    rw [← hD] at HCd ⊢
    have p0_D : D.cell? ⟨bm, 0, none⟩ = some (.int .i64 m.regs) := by rw [HFD.out.cell l1_wc]; exact p0_wc
    have p1_D : D.cell? ⟨bm, 1, none⟩ = some (.slice A1 n1 c1) := by rw [HFD.out.cell l1_wc]; exact p1_wc
    have p2_D : D.cell? ⟨bm, 2, none⟩ = some (.int .i64 m.ret) := by rw [HFD.out.cell l1_wc]; exact p2_wc
    have p3_D : D.cell? ⟨bm, 3, none⟩ = some (.slice A2 n2 c2) := by rw [HFD.out.cell l1_wc]; exact p3_wc
    have q0_D : D.cell? ⟨bt, 0, none⟩ = some (.int .i64 t.frame) := by rw [HFD.out.cell l2_wc]; exact q0_wc
    have q1_D : D.cell? ⟨bt, 1, none⟩ = some (.slice A n c) := by rw [HFD.out.cell l2_wc]; exact q1_wc
    have s0_D : D.cell? ⟨bs, 0, none⟩ = some (.slice A3 n3 c3) := by rw [HFD.out.cell l3_wc]; exact s0_wc
    have s1_D : D.cell? ⟨bs, 1, none⟩ = some (.slice A4 n4 c4) := by rw [HFD.out.cell l3_wc]; exact s1_wc
    have s2_D : D.cell? ⟨bs, 2, none⟩ = some (.slice A5 n5 c5) := by rw [HFD.out.cell l3_wc]; exact s2_wc
    have a0_D : D.cell? ⟨ga, 0, none⟩ = some (.int .i64 xa.fin) := by rw [HFD.out.cell l4_wc]; exact a0_wc
    have a1_D : D.cell? ⟨ga, 1, none⟩ = some (.int .i64 xa.value) := by rw [HFD.out.cell l4_wc]; exact a1_wc
    have a2_D : D.cell? ⟨ga, 2, none⟩ = some (.slice Ca nca cca) := by rw [HFD.out.cell l4_wc]; exact a2_wc
    have a3_D : D.cell? ⟨ga, 3, none⟩ = some (.slice Ma nma cma) := by rw [HFD.out.cell l4_wc]; exact a3_wc
    have a4_D : D.cell? ⟨ga, 4, none⟩ = some (.int .i64 xa.steps) := by rw [HFD.out.cell l4_wc]; exact a4_wc
    have l1_D : bm < D.heap.size := by have := HFD.out.size; omega
    have l2_D : bt < D.heap.size := by have := HFD.out.size; omega
    have l3_D : bs < D.heap.size := by have := HFD.out.size; omega
    have l4_D : ga < D.heap.size := by have := HFD.out.size; omega
    clear hD
    have KC4 := hide (fun (W : World) (hW : Below D.heap.size D W) => sameCalls_any W (fun _ => True) (fun _ => True) Cd Ca nca ccd cca xa.calls (HCd.out.belowAll hW) ((HCa.out.belowAll HYD.out).belowAll hW))
    go_wp2_with (first | (go_at_call 15; (with_reducible refine (HRDf.out _ (by repeat (first | exact Below.refl _ _ | assumption | exact Hd.out (by assumption) | refine Below.alloc ?_ (by first | omega | (simp [size_ext]; try omega)) _ | refine Below.ext ?_ (by first | omega | (simp [size_ext]; try omega)) _ | refine Below.drew ?_ | refine Below.setCell ?_ (by first | omega | (simp [size_ext]; try omega)) _))).mono ?_); rintro e _ ⟨rfl, ux, rfl⟩) | (go_at_call 13; (with_reducible refine (KC4.out _ (by repeat (first | exact Below.refl _ _ | assumption | exact Hd.out (by assumption) | refine Below.alloc ?_ (by first | omega | (simp [size_ext]; try omega)) _ | refine Below.ext ?_ (by first | omega | (simp [size_ext]; try omega)) _ | refine Below.drew ?_ | refine Below.setCell ?_ (by first | omega | (simp [size_ext]; try omega)) _))).mono ?_); rintro e _ ⟨rfl, ux, rfl⟩))
    go_ret
    exact RetX.b (by simp) (FY.out.trans ((show Below Y.heap.size Y _ from (by repeat (first | exact Below.refl _ _ | assumption | exact Hd.out (by assumption) | refine Below.alloc ?_ (by first | omega | (simp [size_ext]; try omega)) _ | refine Below.ext ?_ (by first | omega | (simp [size_ext]; try omega)) _ | refine Below.drew ?_ | refine Below.setCell ?_ (by first | omega | (simp [size_ext]; try omega)) _))).mono hY0))
end
end Go.Proofs.Ytkjipgelbjaggaa
