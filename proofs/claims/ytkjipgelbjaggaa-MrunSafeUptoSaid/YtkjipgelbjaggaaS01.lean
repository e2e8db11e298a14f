/- Walk: MrunSafe's round: what is read, written where a run stands. Walk: MrunSafe's round: is all that is read there. -/
import Derived.Test.YtkjipgelbjaggaaS00
import Derived.Test.YtkjipgelbjaggaaM44
import Derived.Test.YtkjipgelbjaggaaM48
import Derived.Deep.Cut
import Derived.BigGuardPart
import Derived.Deep.DeepCutAuto
set_option linter.unusedSimpArgs false
set_option linter.unusedVariables false
namespace Go.Proofs.Ytkjipgelbjaggaa
open Go.RowKit Go.Maps
section
variable (a : SafeA) (w V : World) (m : Machine) (t : Target) (la : List Int) (lh : List Bool) (K M : Nat) (q : RunM) (r : RunS) (n fuel : Int) (S1 S2 S3 : Nat → Prop) (e0_ e1_ e2_ e6_ e7_ e10_ e33_ e34_ e35_ e36_ e37_ e38_ e39_ e40_ e41_ e42_ e43_ e44_ e45_ e46_ e47_ e48_ e49_ e50_ e51_ e52_ e53_ e54_ e55_ e56_ e57_ e58_ e59_ e60_ e61_ e62_ e63_ e64_ e65_ e66_ e67_ e68_ e69_ e70_ e71_ e72_ : Value)
  (HS : Hd (SafeW a w m t la lh V K q r)) (H1 : Hd (Sl w S1 a.A1 a.n1 a.c1 m.args)) (H2 : Hd (Sl w S2 a.A2 a.n2 a.c2 m.saved)) (H3 : Hd (Sl w S3 a.A a.n a.c t.blocks)) (HM : Hd (r.m = m)) (HT : Hd (r.t = t)) (HI : Hd (RunInv r M))
include HS H1 H3 HM HT HI
set_option maxHeartbeats 40000000 in
set_option maxRecDepth 100000 in
theorem safeA (Q : Exit → Act → World → Prop)
    (HR : Hd (∀ c', C21 = c' → ∀ (gx : Nat) (Al Aw Ai : Option Addr) (nl cl nw cw ni ci : Nat) (V' : World), PartA r V V' gx Al Aw Ai nl cl nw cw ni ci → ∀ (s8_ s20_ s21_ s22_ s23_ s24_ s25_ s26_ s27_ s28_ s29_ s30_ s31_ s32_ s73_ s74_ s75_ s76_ s77_ s78_ s79_ s80_ s81_ s82_ s83_ s84_ s85_ s86_ s87_ s88_ s89_ s90_ s91_ s92_ s93_ s94_ s95_ s96_ s97_ s98_ s99_ s100_ s101_ s102_ s103_ s104_ s105_ s106_ s107_ s108_ s109_ s110_ s111_ s112_ s113_ s114_ s115_ s116_ s117_ s118_ s119_ s120_ s121_ s122_ s123_ s124_ s125_ s126_ s127_ s128_ s129_ s130_ s131_ s132_ s133_ s134_ s135_ s136_ s137_ s138_ s139_ s140_ s141_ s142_ s143_ s144_ s145_ s146_ s147_ s148_ s149_ s150_ s151_ s152_ s153_ s154_ s155_ s156_ s157_ s158_ s159_ s160_ s161_ s162_ s163_ s164_ s165_ s166_ s167_ s168_ s169_ s170_ s171_ s172_ s173_ s174_ s175_ s176_ s177_ s178_ s179_ s180_ s181_ s182_ s183_ s184_ s185_ s186_ s187_ s188_ s189_ s190_ s191_ s192_ s193_ s194_ s195_ s196_ s197_ s198_ s199_ s200_ s201_ s202_ s203_ s204_ s205_ s206_ s207_ s208_ s209_ s210_ s211_ s212_ s213_ s214_ s215_ s216_ s217_ s218_ s219_ s220_ s221_ s222_ s223_ s224_ s225_ s226_ s227_ s228_ s229_ s230_ s231_ s232_ s233_ s234_ s235_ s236_ s237_ s238_ s239_ s240_ s241_ s242_ s243_ s244_ s245_ s246_ s247_ s248_ s249_ s250_ s251_ s252_ s253_ s254_ s255_ s256_ s257_ s258_ s259_ s260_ s261_ s262_ s263_ s264_ s265_ s266_ s267_ s268_ s269_ s270_ s271_ s272_ s273_ s274_ s275_ s276_ s277_ s278_ s279_ s280_ s281_ s282_ s283_ s284_ s285_ s286_ s287_ s288_ s289_ s290_ s291_ s292_ s293_ s294_ s295_ s296_ s297_ s298_ s299_ s300_ s301_ s302_ s303_ s304_ s305_ s306_ s307_ s308_ s309_ s310_ s311_ s312_ s313_ : Value), Code.wp Try.prog c' Q ⟨#[e0_, e1_, e2_, .int .i64 fuel, .pointer (some ⟨a.bm, 0, none⟩), .pointer (some ⟨a.bt, 0, none⟩), e6_, e7_, s8_, .pointer (some ⟨a.X, 0, none⟩), e10_, .slice a.Aat a.N a.cat, .slice a.Ahd a.N a.chd, .int .i64 n, .int .i64 r.block, .int .i64 r.ins, .pointer (some ⟨gx, 0, none⟩), .slice Al nl cl, .int .i64 (opAt r), .slice Aw nw cw, s20_, s21_, s22_, s23_, s24_, s25_, s26_, s27_, s28_, s29_, s30_, s31_, s32_, e33_, e34_, e35_, e36_, e37_, e38_, e39_, e40_, e41_, e42_, e43_, e44_, e45_, e46_, e47_, e48_, e49_, e50_, e51_, e52_, e53_, e54_, e55_, e56_, e57_, e58_, e59_, e60_, e61_, e62_, e63_, e64_, e65_, e66_, e67_, e68_, e69_, e70_, e71_, e72_, s73_, s74_, s75_, s76_, s77_, s78_, s79_, s80_, s81_, s82_, s83_, s84_, s85_, s86_, s87_, s88_, s89_, s90_, s91_, s92_, s93_, s94_, s95_, s96_, s97_, s98_, s99_, s100_, s101_, s102_, s103_, s104_, s105_, s106_, s107_, s108_, s109_, s110_, s111_, s112_, s113_, s114_, s115_, s116_, s117_, s118_, s119_, s120_, s121_, s122_, s123_, s124_, s125_, s126_, s127_, s128_, s129_, s130_, s131_, s132_, s133_, s134_, s135_, s136_, s137_, s138_, s139_, s140_, s141_, s142_, s143_, s144_, s145_, s146_, s147_, s148_, s149_, s150_, s151_, s152_, s153_, s154_, s155_, s156_, s157_, s158_, s159_, s160_, s161_, s162_, s163_, s164_, s165_, s166_, s167_, s168_, s169_, s170_, s171_, s172_, s173_, s174_, s175_, s176_, s177_, s178_, s179_, s180_, s181_, s182_, s183_, s184_, s185_, s186_, s187_, s188_, s189_, s190_, s191_, s192_, s193_, s194_, s195_, s196_, s197_, s198_, s199_, s200_, s201_, s202_, s203_, s204_, s205_, s206_, s207_, s208_, s209_, s210_, s211_, s212_, s213_, s214_, s215_, s216_, s217_, s218_, s219_, s220_, s221_, s222_, s223_, s224_, s225_, s226_, s227_, s228_, s229_, s230_, s231_, s232_, s233_, s234_, s235_, s236_, s237_, s238_, s239_, s240_, s241_, s242_, s243_, s244_, s245_, s246_, s247_, s248_, s249_, s250_, s251_, s252_, s253_, s254_, s255_, s256_, s257_, s258_, s259_, s260_, s261_, s262_, s263_, s264_, s265_, s266_, s267_, s268_, s269_, s270_, s271_, s272_, s273_, s274_, s275_, s276_, s277_, s278_, s279_, s280_, s281_, s282_, s283_, s284_, s285_, s286_, s287_, s288_, s289_, s290_, s291_, s292_, s293_, s294_, s295_, s296_, s297_, s298_, s299_, s300_, s301_, s302_, s303_, s304_, s305_, s306_, s307_, s308_, s309_, s310_, s311_, s312_, s313_], []⟩ V'))
    (c : Code) (hc : C12 = c) (s8_ s14_ s15_ s16_ s17_ s18_ s19_ s20_ s21_ s22_ s23_ s24_ s25_ s26_ s27_ s28_ s29_ s30_ s31_ s32_ s73_ s74_ s75_ s76_ s77_ s78_ s79_ s80_ s81_ s82_ s83_ s84_ s85_ s86_ s87_ s88_ s89_ s90_ s91_ s92_ s93_ s94_ s95_ s96_ s97_ s98_ s99_ s100_ s101_ s102_ s103_ s104_ s105_ s106_ s107_ s108_ s109_ s110_ s111_ s112_ s113_ s114_ s115_ s116_ s117_ s118_ s119_ s120_ s121_ s122_ s123_ s124_ s125_ s126_ s127_ s128_ s129_ s130_ s131_ s132_ s133_ s134_ s135_ s136_ s137_ s138_ s139_ s140_ s141_ s142_ s143_ s144_ s145_ s146_ s147_ s148_ s149_ s150_ s151_ s152_ s153_ s154_ s155_ s156_ s157_ s158_ s159_ s160_ s161_ s162_ s163_ s164_ s165_ s166_ s167_ s168_ s169_ s170_ s171_ s172_ s173_ s174_ s175_ s176_ s177_ s178_ s179_ s180_ s181_ s182_ s183_ s184_ s185_ s186_ s187_ s188_ s189_ s190_ s191_ s192_ s193_ s194_ s195_ s196_ s197_ s198_ s199_ s200_ s201_ s202_ s203_ s204_ s205_ s206_ s207_ s208_ s209_ s210_ s211_ s212_ s213_ s214_ s215_ s216_ s217_ s218_ s219_ s220_ s221_ s222_ s223_ s224_ s225_ s226_ s227_ s228_ s229_ s230_ s231_ s232_ s233_ s234_ s235_ s236_ s237_ s238_ s239_ s240_ s241_ s242_ s243_ s244_ s245_ s246_ s247_ s248_ s249_ s250_ s251_ s252_ s253_ s254_ s255_ s256_ s257_ s258_ s259_ s260_ s261_ s262_ s263_ s264_ s265_ s266_ s267_ s268_ s269_ s270_ s271_ s272_ s273_ s274_ s275_ s276_ s277_ s278_ s279_ s280_ s281_ s282_ s283_ s284_ s285_ s286_ s287_ s288_ s289_ s290_ s291_ s292_ s293_ s294_ s295_ s296_ s297_ s298_ s299_ s300_ s301_ s302_ s303_ s304_ s305_ s306_ s307_ s308_ s309_ s310_ s311_ s312_ s313_ : Value) : Code.wp Try.prog c Q ⟨#[e0_, e1_, e2_, .int .i64 fuel, .pointer (some ⟨a.bm, 0, none⟩), .pointer (some ⟨a.bt, 0, none⟩), e6_, e7_, s8_, .pointer (some ⟨a.X, 0, none⟩), e10_, .slice a.Aat a.N a.cat, .slice a.Ahd a.N a.chd, .int .i64 n, s14_, s15_, s16_, s17_, s18_, s19_, s20_, s21_, s22_, s23_, s24_, s25_, s26_, s27_, s28_, s29_, s30_, s31_, s32_, e33_, e34_, e35_, e36_, e37_, e38_, e39_, e40_, e41_, e42_, e43_, e44_, e45_, e46_, e47_, e48_, e49_, e50_, e51_, e52_, e53_, e54_, e55_, e56_, e57_, e58_, e59_, e60_, e61_, e62_, e63_, e64_, e65_, e66_, e67_, e68_, e69_, e70_, e71_, e72_, s73_, s74_, s75_, s76_, s77_, s78_, s79_, s80_, s81_, s82_, s83_, s84_, s85_, s86_, s87_, s88_, s89_, s90_, s91_, s92_, s93_, s94_, s95_, s96_, s97_, s98_, s99_, s100_, s101_, s102_, s103_, s104_, s105_, s106_, s107_, s108_, s109_, s110_, s111_, s112_, s113_, s114_, s115_, s116_, s117_, s118_, s119_, s120_, s121_, s122_, s123_, s124_, s125_, s126_, s127_, s128_, s129_, s130_, s131_, s132_, s133_, s134_, s135_, s136_, s137_, s138_, s139_, s140_, s141_, s142_, s143_, s144_, s145_, s146_, s147_, s148_, s149_, s150_, s151_, s152_, s153_, s154_, s155_, s156_, s157_, s158_, s159_, s160_, s161_, s162_, s163_, s164_, s165_, s166_, s167_, s168_, s169_, s170_, s171_, s172_, s173_, s174_, s175_, s176_, s177_, s178_, s179_, s180_, s181_, s182_, s183_, s184_, s185_, s186_, s187_, s188_, s189_, s190_, s191_, s192_, s193_, s194_, s195_, s196_, s197_, s198_, s199_, s200_, s201_, s202_, s203_, s204_, s205_, s206_, s207_, s208_, s209_, s210_, s211_, s212_, s213_, s214_, s215_, s216_, s217_, s218_, s219_, s220_, s221_, s222_, s223_, s224_, s225_, s226_, s227_, s228_, s229_, s230_, s231_, s232_, s233_, s234_, s235_, s236_, s237_, s238_, s239_, s240_, s241_, s242_, s243_, s244_, s245_, s246_, s247_, s248_, s249_, s250_, s251_, s252_, s253_, s254_, s255_, s256_, s257_, s258_, s259_, s260_, s261_, s262_, s263_, s264_, s265_, s266_, s267_, s268_, s269_, s270_, s271_, s272_, s273_, s274_, s275_, s276_, s277_, s278_, s279_, s280_, s281_, s282_, s283_, s284_, s285_, s286_, s287_, s288_, s289_, s290_, s291_, s292_, s293_, s294_, s295_, s296_, s297_, s298_, s299_, s300_, s301_, s302_, s303_, s304_, s305_, s306_, s307_, s308_, s309_, s310_, s311_, s312_, s313_], []⟩ V := by
  subst hc
  conv => arg 2; whnf
  dsimp only
  have hok := rightT_parts HI.out.ok
  have hb0 := HI.out.b0; have hi0 := HI.out.i0
  have hbn := H3.out.len
  have hb1 : r.block < (a.n : Int) := by have := HI.out.b1; rw [HT.out] at this; omega
  have hkn : r.block.toNat < a.n := by omega
  have hfew : a.n ≤ 200 := by have := hok.few; rw [HT.out] at this; omega
  obtain ⟨gb, off, x, Ai, ni, ci, hA, hgb, hx, hins, it1, it2, it3, it4, z0, z1, z2, z3, z4⟩ := at_Block (H3.out.belowAll HS.out.fr) hkn
  have hxb : blockR r = x := by unfold blockR; rw [HT.out, List.getD_eq_getElem?_getD, hx]; rfl
  have HXB := hide hxb
  have hni : ni ≤ 4000 := by
    have := hok.short _ (blockR_mem HI.out.b0 HI.out.b1)
    rw [hxb, hins.len] at this; exact this
  have HNI := hide hins.len
  have HINS := hide hins
  have IT := hide it2
  have q1 := HS.out.q1
  rw [hA] at q1
  have lm := HS.out.lmV; have lt := HS.out.ltV
  have HMR := hide (show InI m.ret by rw [← HM.out]; exact HI.out.ret)
  have HRUN := hide HS.out.run
  have hm1 : a.n1 ≤ 1048576 := by have := H1.out.len; have := (rightM_few hok.mach).1; rw [HM.out] at this; omega
  clear hok hbn hA hins it1 it2 it3 it4 hx hxb
  go_upto_region 13 with (go_at_call 18; refine (at9_any _ _ _ _ _ _ HRUN.out).mono ?_; rintro e _ ⟨rfl, ux, rfl⟩; dsimp only)
  refine name_world fun Y hY => ?_
  have HBY := hide (show Below V.heap.size V Y by rw [hY]; exact Below.of_ext _ _ (Nat.le_refl _))
  have hsY := HBY.out.size
  have q1Y : Y.cell? ⟨a.bt, 1, none⟩ = some (.slice (some ⟨gb, off, none⟩) a.n a.c) := by rw [HBY.out.cell lt]; exact q1
  have z0Y : Y.cell? ⟨gb, off + r.block.toNat * 5, none⟩ = some (.slice Ai ni ci) := by rw [HBY.out.cell hgb]; exact z0
  have z1Y : Y.cell? ⟨gb, off + r.block.toNat * 5 + 1, none⟩ = some (.int .i64 x.term.kind) := by rw [HBY.out.cell hgb]; exact z1
  have z2Y : Y.cell? ⟨gb, off + r.block.toNat * 5 + 2, none⟩ = some (.int .i64 x.term.a) := by rw [HBY.out.cell hgb]; exact z2
  have z3Y : Y.cell? ⟨gb, off + r.block.toNat * 5 + 3, none⟩ = some (.int .i64 x.term.to0) := by rw [HBY.out.cell hgb]; exact z3
  have z4Y : Y.cell? ⟨gb, off + r.block.toNat * 5 + 4, none⟩ = some (.int .i64 x.term.to1) := by rw [HBY.out.cell hgb]; exact z4
  have hgbY : gb < Y.heap.size := by omega
  have ltY : a.bt < Y.heap.size := by omega
  clear hY z0 z1 z2 z3 z4 q1
  go_upto_region 17 with (go_at_call 19; refine (needs_any _ x.term IT.out).mono ?_; rintro e _ ⟨Al, nl, cl, rfl, hl, un, rfl⟩; have HL := hide hl; clear hl; dsimp only)
  rename_i K1 hK1 K2 hK2
  have HK1 := hide hK1
  clear hK1
  refine name_world fun Z hZ => ?_
  have HYZ := hide (show Below Y.heap.size Y Z by rw [hZ]; exact (by repeat (first | exact Below.refl _ _ | assumption | refine Below.alloc ?_ (by simp [size_ext]; try omega) _ | refine Below.ext ?_ (by simp [size_ext]; try omega) _ | refine Below.drew ?_ | refine Below.setCell ?_ (by simp [size_ext]; try omega) _)))
  have hsZ := HYZ.out.size
  have gZ : Y.heap.size < Z.heap.size := by rw [hZ]; simp [size_ext]; omega
  have x0 : Z.cell? ⟨Y.heap.size, 0, none⟩ = some (.slice Ai ni ci) := by rw [hZ]; go_simp
  have x1 : Z.cell? ⟨Y.heap.size, 1, none⟩ = some (.int .i64 x.term.kind) := by rw [hZ]; go_simp
  have HLZ := hide (show Sl Z (fun _ => True) Al nl cl (needsP x.term) by rw [hZ]; exact HL.out.more fun _ _ _ => trivial)
  have HVZ := hide (HBY.out.trans (HYZ.out.mono hsY))
  have hVZ := HVZ.out.size
  have p0 : Z.cell? ⟨a.bm, 0, none⟩ = some (.int .i64 m.regs) := by rw [HVZ.out.cell lm]; exact HS.out.p0
  have p1 : Z.cell? ⟨a.bm, 1, none⟩ = some (.slice a.A1 a.n1 a.c1) := by rw [HVZ.out.cell lm]; exact HS.out.p1
  have p2 : Z.cell? ⟨a.bm, 2, none⟩ = some (.int .i64 m.ret) := by rw [HVZ.out.cell lm]; exact HS.out.p2
  have p3 : Z.cell? ⟨a.bm, 3, none⟩ = some (.slice a.A2 a.n2 a.c2) := by rw [HVZ.out.cell lm]; exact HS.out.p3
  have lmZ : a.bm < Z.heap.size := by omega
  clear hZ HL q1Y z0Y z1Y z2Y z3Y z4Y
  by_cases hi : r.ins < (ni : Int)
  case neg =>
    have hi' : ¬ r.ins < ((blockR r).ins.length : Int) := by rw [HXB.out, HNI.out]; exact hi
    have hR := HR.out
    rw [show opAt r = 0 by unfold opAt; rw [if_neg hi']] at hR
    have hrd : readsAt r = needsP x.term := by unfold readsAt; rw [if_neg hi', HXB.out]
    have hwr : writesAt r = [] := by unfold writesAt; rw [if_neg hi']
    have HRR := hide hR
    have HRD := hide hrd; have HWR := hide hwr
    clear hR hrd hwr hi' HR
    go_wp2_with fail
    refine HK1.out _ _ ?_
    exact HRR.out _ (by kernel_rfl) Y.heap.size Al none Ai nl cl 0 0 ni ci Z ⟨HVZ.out, by rw [HRD.out]; exact HLZ.out, by rw [HWR.out]; exact Sl.nil, hsY, gZ, x0, by rw [HXB.out]; exact x1, by rw [HXB.out, HNI.out]⟩ _ _ _ _ _ _ _ _ _ _ _ _ _ _ _ _ _ _ _ _ _ _ _ _ _ _ _ _ _ _ _ _ _ _ _ _ _ _ _ _ _ _ _ _ _ _ _ _ _ _ _ _ _ _ _ _ _ _ _ _ _ _ _ _ _ _ _ _ _ _ _ _ _ _ _ _ _ _ _ _ _ _ _ _ _ _ _ _ _ _ _ _ _ _ _ _ _ _ _ _ _ _ _ _ _ _ _ _ _ _ _ _ _ _ _ _ _ _ _ _ _ _ _ _ _ _ _ _ _ _ _ _ _ _ _ _ _ _ _ _ _ _ _ _ _ _ _ _ _ _ _ _ _ _ _ _ _ _ _ _ _ _ _ _ _ _ _ _ _ _ _ _ _ _ _ _ _ _ _ _ _ _ _ _ _ _ _ _ _ _ _ _ _ _ _ _ _ _ _ _ _ _ _ _ _ _ _ _ _ _ _ _ _ _ _ _ _ _ _ _ _ _ _ _ _ _ _ _ _ _ _ _ _ _ _ _ _ _ _ _ _ _ _ _ _ _ _ _ _ _ _ _ _ _ _
  case pos =>
    have hi' : r.ins < ((blockR r).ins.length : Int) := by rw [HXB.out, HNI.out]; exact hi
    have hni2 : r.ins.toNat < ni := by omega
    obtain ⟨g2, off2, i, Aa, na, ca, hA, hg2, hi2, io, idd, ia, ib, ii, ic, iargs, im, q0, q1, q2, q3, q4, q5, q6, q7⟩ := at_Ins (HINS.out.belowAll HVZ.out) hni2
    subst hA
    have hia : insAt r = i := by unfold insAt; rw [HXB.out, List.getD_eq_getElem?_getD, hi2]; rfl
    have hR := HR.out
    rw [show opAt r = i.op by unfold opAt; rw [if_pos hi', hia]] at hR
    have hrd : readsAt r = readsP m i := by unfold readsAt; rw [if_pos hi', hia, HM.out]
    have hwr : writesAt r = writesP m i := by unfold writesAt; rw [if_pos hi', hia, HM.out]
    have HRR := hide hR
    have HRD := hide hrd; have HWR := hide hwr
    have IA := hide ia; have IB := hide ib; have II := hide ii; have ID := hide idd
    obtain ⟨l1, hl1⟩ : ∃ l, (readsP m i).length = l := ⟨_, rfl⟩
    obtain ⟨l2, hl2⟩ : ∃ l, (writesP m i).length = l := ⟨_, rfl⟩
    have L1 := hide hl1; have L2 := hide hl2
    have H1Z := hide (H1.out.belowAll (HS.out.fr.trans (HVZ.out.mono HS.out.fr.size)))
    clear hR hrd hwr hi' HR hia hi2 io idd ia ib ii ic iargs im hl1 hl2
    go_upto_region 18 with (fail)
    refine wp_region_flowI [6] 7 (by kernel_rfl) rfl (by kernel_rfl) (by kernel_rfl) ?_
    simp only [List.take_succ_cons, List.take_zero, List.drop_succ_cons, List.drop_zero]
    repeat (refine flowI_known (by kernel_rfl) (fun K hK => ?_); go_simp; (first | (refine hK _ ?_; clear hK K) | (apply Exists.intro; refine ⟨fun _ => ?_, hK _ ?_⟩; (fail); clear hK K)))
    refine flowI_keep0 (SlIv l1 (readsP m i)) (by kernel_rfl) (SlIv.stable_ rfl) ?_ ?_
    · intro u
      go_simp
      refine (reads_any _ S1 m a.A1 a.A2 a.n1 a.c1 a.n2 a.c2 (H1Z.out.ext u) hm1 i Aa na ca IA.out IB.out II.out).mono ?_
      rintro e _ ⟨A', n', c', rfl, hs, x', rfl⟩
      obtain rfl : n' = l1 := by rw [← L1.out]; exact hs.len.symm
      exact ⟨_, rfl, ⟨A', c', rfl, hs.more fun b hb h => ⟨by rw [size_ext] at h; exact h, hb⟩⟩, onW_ext ⟨_, rfl⟩ ⟨x', rfl⟩⟩
    refine flowI_done [true] rfl ?_
    intro γ u hap
    simp only [List.nil_append, List.cons_append, List.map_cons, List.map_nil, atG, endH_f, endH_t, endH_nil]
    rintro _ ⟨Al2, cl2, rfl, hos⟩
    have HLr := hide (hos.more (S' := fun _ => True) fun _ _ _ => trivial)
    clear hap hos
    go_upto_region 19 with (fail)
    refine name_world fun Z2 hZ2 => ?_
    have HB2 := hide (show Below Z.heap.size Z Z2 by rw [hZ2]; exact Below.of_ext _ _ (Nat.le_refl _))
    have hs2 := HB2.out.size
    rw [← hZ2] at HLr
    clear hZ2
    have x0_2 : Z2.cell? ⟨Y.heap.size, 0, none⟩ = some (.slice (some ⟨g2, off2, none⟩) ni ci) := by rw [HB2.out.cell gZ]; exact x0
    have x1_2 : Z2.cell? ⟨Y.heap.size, 1, none⟩ = some (.int .i64 x.term.kind) := by rw [HB2.out.cell gZ]; exact x1
    have p0_2 : Z2.cell? ⟨a.bm, 0, none⟩ = some (.int .i64 m.regs) := by rw [HB2.out.cell lmZ]; exact p0
    have p1_2 : Z2.cell? ⟨a.bm, 1, none⟩ = some (.slice a.A1 a.n1 a.c1) := by rw [HB2.out.cell lmZ]; exact p1
    have p2_2 : Z2.cell? ⟨a.bm, 2, none⟩ = some (.int .i64 m.ret) := by rw [HB2.out.cell lmZ]; exact p2
    have p3_2 : Z2.cell? ⟨a.bm, 3, none⟩ = some (.slice a.A2 a.n2 a.c2) := by rw [HB2.out.cell lmZ]; exact p3
    have q0_2 := (HB2.out.cell (p := ⟨g2, off2 + r.ins.toNat * 8, none⟩) hg2).trans q0
    have q1_2 := (HB2.out.cell (p := ⟨g2, off2 + r.ins.toNat * 8 + 1, none⟩) hg2).trans q1
    have q2_2 := (HB2.out.cell (p := ⟨g2, off2 + r.ins.toNat * 8 + 2, none⟩) hg2).trans q2
    have q3_2 := (HB2.out.cell (p := ⟨g2, off2 + r.ins.toNat * 8 + 3, none⟩) hg2).trans q3
    have q4_2 := (HB2.out.cell (p := ⟨g2, off2 + r.ins.toNat * 8 + 4, none⟩) hg2).trans q4
    have q5_2 := (HB2.out.cell (p := ⟨g2, off2 + r.ins.toNat * 8 + 5, none⟩) hg2).trans q5
    have q6_2 := (HB2.out.cell (p := ⟨g2, off2 + r.ins.toNat * 8 + 6, none⟩) hg2).trans q6
    have q7_2 := (HB2.out.cell (p := ⟨g2, off2 + r.ins.toNat * 8 + 7, none⟩) hg2).trans q7
    have hg2_2 : g2 < Z2.heap.size := by omega
    have lm_2 : a.bm < Z2.heap.size := by omega
    have gZ_2 : Y.heap.size < Z2.heap.size := by omega
    clear x0 x1 p0 p1 p2 p3 q0 q1 q2 q3 q4 q5 q6 q7
    refine wp_region_flowI [6] 7 (by kernel_rfl) rfl (by kernel_rfl) (by kernel_rfl) ?_
    simp only [List.take_succ_cons, List.take_zero, List.drop_succ_cons, List.drop_zero]
    repeat (refine flowI_known (by kernel_rfl) (fun K hK => ?_); go_simp; (first | (refine hK _ ?_; clear hK K) | (apply Exists.intro; refine ⟨fun _ => ?_, hK _ ?_⟩; (fail); clear hK K)))
    refine flowI_keep0 (SlIv l2 (writesP m i)) (by kernel_rfl) (SlIv.stable_ rfl) ?_ ?_
    · intro u
      go_simp
      refine (writes_any _ m a.A1 a.A2 a.n1 a.c1 a.n2 a.c2 i Aa na ca HMR.out ID.out II.out).mono ?_
      rintro e _ ⟨A', n', c', rfl, hs, x', rfl⟩
      obtain rfl : n' = l2 := by rw [← L2.out]; exact hs.len.symm
      refine ⟨_, rfl, ⟨A', c', rfl, hs.more fun b hb h => ⟨by rw [size_ext] at h; exact h, hb⟩⟩, onW_ext ⟨_, rfl⟩ ⟨x', rfl⟩⟩
    refine flowI_done [true] rfl ?_
    intro γ u3 hap
    simp only [List.nil_append, List.cons_append, List.map_cons, List.map_nil, atG, endH_f, endH_t, endH_nil]
    rintro _ ⟨Aw, cw, rfl, how⟩
    have a10 := hap.1 ⟨6, some 109, SlIv l2 (writesP m i)⟩ (by simp)
    simp only [Nat.zero_add, Nat.reduceAdd] at how a10
    have HWr := hide (how.more (S' := fun b => V.heap.size ≤ b ∧ b < (Z2.ext u3).heap.size) fun b hb h => ⟨by have := a10.1; omega, hb⟩)
    clear hap how a10
    go_wp2_with fail
    refine HK1.out _ _ ?_
    have HB3 := hide (show Below Z.heap.size Z (Z2.ext u3) from HB2.out.ext hs2 _)
    exact HRR.out _ (by kernel_rfl) Y.heap.size Al2 Aw (some ⟨g2, off2, none⟩) l1 cl2 l2 cw ni ci (Z2.ext u3) ⟨HVZ.out.trans (HB3.out.mono hVZ), by rw [HRD.out]; exact HLr.out.ext _, by rw [HWR.out]; exact HWr.out, hsY, by rw [size_ext]; omega, by rw [(Below.of_ext Z2 u3 (Nat.le_refl _)).cell gZ_2]; exact x0_2, by rw [(Below.of_ext Z2 u3 (Nat.le_refl _)).cell gZ_2, HXB.out]; exact x1_2, by rw [HXB.out, HNI.out]⟩ _ _ _ _ _ _ _ _ _ _ _ _ _ _ _ _ _ _ _ _ _ _ _ _ _ _ _ _ _ _ _ _ _ _ _ _ _ _ _ _ _ _ _ _ _ _ _ _ _ _ _ _ _ _ _ _ _ _ _ _ _ _ _ _ _ _ _ _ _ _ _ _ _ _ _ _ _ _ _ _ _ _ _ _ _ _ _ _ _ _ _ _ _ _ _ _ _ _ _ _ _ _ _ _ _ _ _ _ _ _ _ _ _ _ _ _ _ _ _ _ _ _ _ _ _ _ _ _ _ _ _ _ _ _ _ _ _ _ _ _ _ _ _ _ _ _ _ _ _ _ _ _ _ _ _ _ _ _ _ _ _ _ _ _ _ _ _ _ _ _ _ _ _ _ _ _ _ _ _ _ _ _ _ _ _ _ _ _ _ _ _ _ _ _ _ _ _ _ _ _ _ _ _ _ _ _ _ _ _ _ _ _ _ _ _ _ _ _ _ _ _ _ _ _ _ _ _ _ _ _ _ _ _ _ _ _ _ _ _ _ _ _ _ _ _ _ _ _ _ _ _ _ _ _ _
end
end Go.Proofs.Ytkjipgelbjaggaa
set_option linter.unusedSimpArgs false
set_option linter.unusedVariables false
namespace Go.Proofs.Ytkjipgelbjaggaa
open Go.RowKit Go.Maps
section
variable (a : SafeA) (w V : World) (m : Machine) (t : Target) (la : List Int) (lh : List Bool) (K M : Nat) (q : RunM) (r : RunS) (n fuel : Int) (S1 S2 S3 : Nat → Prop) (e0_ e1_ e2_ e6_ e7_ e10_ e33_ e34_ e35_ e36_ e37_ e38_ e39_ e40_ e41_ e42_ e43_ e44_ e45_ e46_ e47_ e48_ e49_ e50_ e51_ e52_ e53_ e54_ e55_ e56_ e57_ e58_ e59_ e60_ e61_ e62_ e63_ e64_ e65_ e66_ e67_ e68_ e69_ e70_ e71_ e72_ : Value)
  (HS : Hd (SafeW a w m t la lh V K q r)) (H1 : Hd (Sl w S1 a.A1 a.n1 a.c1 m.args)) (H2 : Hd (Sl w S2 a.A2 a.n2 a.c2 m.saved)) (H3 : Hd (Sl w S3 a.A a.n a.c t.blocks)) (HM : Hd (r.m = m)) (HT : Hd (r.t = t)) (HI : Hd (RunInv r M))
variable (gx : Nat) (Al Aw Ai : Option Addr) (nl cl nw cw ni ci : Nat)
include HS
set_option maxHeartbeats 40000000 in
set_option maxRecDepth 100000 in
theorem safeB (hl : Hd (Sl V (fun _ => True) Al nl cl (readsAt r))) (Q : Exit → Act → World → Prop)
    (HR : Hd (∀ c', C27 = c' → ∀ (u : Ext) (s8_ s21_ s22_ s23_ s24_ s25_ s26_ s27_ s28_ s29_ s30_ s31_ s32_ s73_ s74_ s75_ s76_ s77_ s78_ s79_ s80_ s81_ s82_ s83_ s84_ s85_ s86_ s87_ s88_ s89_ s90_ s91_ s92_ s93_ s94_ s95_ s96_ s97_ s98_ s99_ s100_ s101_ s102_ s103_ s104_ s105_ s106_ s107_ s108_ s109_ s110_ s111_ s112_ s113_ s114_ s115_ s116_ s117_ s118_ s119_ s120_ s121_ s122_ s123_ s124_ s125_ s126_ s127_ s128_ s129_ s130_ s131_ s132_ s133_ s134_ s135_ s136_ s137_ s138_ s139_ s140_ s141_ s142_ s143_ s144_ s145_ s146_ s147_ s148_ s149_ s150_ s151_ s152_ s153_ s154_ s155_ s156_ s157_ s158_ s159_ s160_ s161_ s162_ s163_ s164_ s165_ s166_ s167_ s168_ s169_ s170_ s171_ s172_ s173_ s174_ s175_ s176_ s177_ s178_ s179_ s180_ s181_ s182_ s183_ s184_ s185_ s186_ s187_ s188_ s189_ s190_ s191_ s192_ s193_ s194_ s195_ s196_ s197_ s198_ s199_ s200_ s201_ s202_ s203_ s204_ s205_ s206_ s207_ s208_ s209_ s210_ s211_ s212_ s213_ s214_ s215_ s216_ s217_ s218_ s219_ s220_ s221_ s222_ s223_ s224_ s225_ s226_ s227_ s228_ s229_ s230_ s231_ s232_ s233_ s234_ s235_ s236_ s237_ s238_ s239_ s240_ s241_ s242_ s243_ s244_ s245_ s246_ s247_ s248_ s249_ s250_ s251_ s252_ s253_ s254_ s255_ s256_ s257_ s258_ s259_ s260_ s261_ s262_ s263_ s264_ s265_ s266_ s267_ s268_ s269_ s270_ s271_ s272_ s273_ s274_ s275_ s276_ s277_ s278_ s279_ s280_ s281_ s282_ s283_ s284_ s285_ s286_ s287_ s288_ s289_ s290_ s291_ s292_ s293_ s294_ s295_ s296_ s297_ s298_ s299_ s300_ s301_ s302_ s303_ s304_ s305_ s306_ s307_ s308_ s309_ s310_ s311_ s312_ s313_ : Value), Code.wp Try.prog c' Q ⟨#[e0_, e1_, e2_, .int .i64 fuel, .pointer (some ⟨a.bm, 0, none⟩), .pointer (some ⟨a.bt, 0, none⟩), e6_, e7_, s8_, .pointer (some ⟨a.X, 0, none⟩), e10_, .slice a.Aat a.N a.cat, .slice a.Ahd a.N a.chd, .int .i64 n, .int .i64 r.block, .int .i64 r.ins, .pointer (some ⟨gx, 0, none⟩), .slice Al nl cl, .int .i64 (opAt r), .slice Aw nw cw, .bool (wholeC r.cells (readsAt r)), s21_, s22_, s23_, s24_, s25_, s26_, s27_, s28_, s29_, s30_, s31_, s32_, e33_, e34_, e35_, e36_, e37_, e38_, e39_, e40_, e41_, e42_, e43_, e44_, e45_, e46_, e47_, e48_, e49_, e50_, e51_, e52_, e53_, e54_, e55_, e56_, e57_, e58_, e59_, e60_, e61_, e62_, e63_, e64_, e65_, e66_, e67_, e68_, e69_, e70_, e71_, e72_, s73_, s74_, s75_, s76_, s77_, s78_, s79_, s80_, s81_, s82_, s83_, s84_, s85_, s86_, s87_, s88_, s89_, s90_, s91_, s92_, s93_, s94_, s95_, s96_, s97_, s98_, s99_, s100_, s101_, s102_, s103_, s104_, s105_, s106_, s107_, s108_, s109_, s110_, s111_, s112_, s113_, s114_, s115_, s116_, s117_, s118_, s119_, s120_, s121_, s122_, s123_, s124_, s125_, s126_, s127_, s128_, s129_, s130_, s131_, s132_, s133_, s134_, s135_, s136_, s137_, s138_, s139_, s140_, s141_, s142_, s143_, s144_, s145_, s146_, s147_, s148_, s149_, s150_, s151_, s152_, s153_, s154_, s155_, s156_, s157_, s158_, s159_, s160_, s161_, s162_, s163_, s164_, s165_, s166_, s167_, s168_, s169_, s170_, s171_, s172_, s173_, s174_, s175_, s176_, s177_, s178_, s179_, s180_, s181_, s182_, s183_, s184_, s185_, s186_, s187_, s188_, s189_, s190_, s191_, s192_, s193_, s194_, s195_, s196_, s197_, s198_, s199_, s200_, s201_, s202_, s203_, s204_, s205_, s206_, s207_, s208_, s209_, s210_, s211_, s212_, s213_, s214_, s215_, s216_, s217_, s218_, s219_, s220_, s221_, s222_, s223_, s224_, s225_, s226_, s227_, s228_, s229_, s230_, s231_, s232_, s233_, s234_, s235_, s236_, s237_, s238_, s239_, s240_, s241_, s242_, s243_, s244_, s245_, s246_, s247_, s248_, s249_, s250_, s251_, s252_, s253_, s254_, s255_, s256_, s257_, s258_, s259_, s260_, s261_, s262_, s263_, s264_, s265_, s266_, s267_, s268_, s269_, s270_, s271_, s272_, s273_, s274_, s275_, s276_, s277_, s278_, s279_, s280_, s281_, s282_, s283_, s284_, s285_, s286_, s287_, s288_, s289_, s290_, s291_, s292_, s293_, s294_, s295_, s296_, s297_, s298_, s299_, s300_, s301_, s302_, s303_, s304_, s305_, s306_, s307_, s308_, s309_, s310_, s311_, s312_, s313_], []⟩ (V.ext u)))
    (c : Code) (hc : C21 = c) (s8_ s20_ s21_ s22_ s23_ s24_ s25_ s26_ s27_ s28_ s29_ s30_ s31_ s32_ s73_ s74_ s75_ s76_ s77_ s78_ s79_ s80_ s81_ s82_ s83_ s84_ s85_ s86_ s87_ s88_ s89_ s90_ s91_ s92_ s93_ s94_ s95_ s96_ s97_ s98_ s99_ s100_ s101_ s102_ s103_ s104_ s105_ s106_ s107_ s108_ s109_ s110_ s111_ s112_ s113_ s114_ s115_ s116_ s117_ s118_ s119_ s120_ s121_ s122_ s123_ s124_ s125_ s126_ s127_ s128_ s129_ s130_ s131_ s132_ s133_ s134_ s135_ s136_ s137_ s138_ s139_ s140_ s141_ s142_ s143_ s144_ s145_ s146_ s147_ s148_ s149_ s150_ s151_ s152_ s153_ s154_ s155_ s156_ s157_ s158_ s159_ s160_ s161_ s162_ s163_ s164_ s165_ s166_ s167_ s168_ s169_ s170_ s171_ s172_ s173_ s174_ s175_ s176_ s177_ s178_ s179_ s180_ s181_ s182_ s183_ s184_ s185_ s186_ s187_ s188_ s189_ s190_ s191_ s192_ s193_ s194_ s195_ s196_ s197_ s198_ s199_ s200_ s201_ s202_ s203_ s204_ s205_ s206_ s207_ s208_ s209_ s210_ s211_ s212_ s213_ s214_ s215_ s216_ s217_ s218_ s219_ s220_ s221_ s222_ s223_ s224_ s225_ s226_ s227_ s228_ s229_ s230_ s231_ s232_ s233_ s234_ s235_ s236_ s237_ s238_ s239_ s240_ s241_ s242_ s243_ s244_ s245_ s246_ s247_ s248_ s249_ s250_ s251_ s252_ s253_ s254_ s255_ s256_ s257_ s258_ s259_ s260_ s261_ s262_ s263_ s264_ s265_ s266_ s267_ s268_ s269_ s270_ s271_ s272_ s273_ s274_ s275_ s276_ s277_ s278_ s279_ s280_ s281_ s282_ s283_ s284_ s285_ s286_ s287_ s288_ s289_ s290_ s291_ s292_ s293_ s294_ s295_ s296_ s297_ s298_ s299_ s300_ s301_ s302_ s303_ s304_ s305_ s306_ s307_ s308_ s309_ s310_ s311_ s312_ s313_ : Value) : Code.wp Try.prog c Q ⟨#[e0_, e1_, e2_, .int .i64 fuel, .pointer (some ⟨a.bm, 0, none⟩), .pointer (some ⟨a.bt, 0, none⟩), e6_, e7_, s8_, .pointer (some ⟨a.X, 0, none⟩), e10_, .slice a.Aat a.N a.cat, .slice a.Ahd a.N a.chd, .int .i64 n, .int .i64 r.block, .int .i64 r.ins, .pointer (some ⟨gx, 0, none⟩), .slice Al nl cl, .int .i64 (opAt r), .slice Aw nw cw, s20_, s21_, s22_, s23_, s24_, s25_, s26_, s27_, s28_, s29_, s30_, s31_, s32_, e33_, e34_, e35_, e36_, e37_, e38_, e39_, e40_, e41_, e42_, e43_, e44_, e45_, e46_, e47_, e48_, e49_, e50_, e51_, e52_, e53_, e54_, e55_, e56_, e57_, e58_, e59_, e60_, e61_, e62_, e63_, e64_, e65_, e66_, e67_, e68_, e69_, e70_, e71_, e72_, s73_, s74_, s75_, s76_, s77_, s78_, s79_, s80_, s81_, s82_, s83_, s84_, s85_, s86_, s87_, s88_, s89_, s90_, s91_, s92_, s93_, s94_, s95_, s96_, s97_, s98_, s99_, s100_, s101_, s102_, s103_, s104_, s105_, s106_, s107_, s108_, s109_, s110_, s111_, s112_, s113_, s114_, s115_, s116_, s117_, s118_, s119_, s120_, s121_, s122_, s123_, s124_, s125_, s126_, s127_, s128_, s129_, s130_, s131_, s132_, s133_, s134_, s135_, s136_, s137_, s138_, s139_, s140_, s141_, s142_, s143_, s144_, s145_, s146_, s147_, s148_, s149_, s150_, s151_, s152_, s153_, s154_, s155_, s156_, s157_, s158_, s159_, s160_, s161_, s162_, s163_, s164_, s165_, s166_, s167_, s168_, s169_, s170_, s171_, s172_, s173_, s174_, s175_, s176_, s177_, s178_, s179_, s180_, s181_, s182_, s183_, s184_, s185_, s186_, s187_, s188_, s189_, s190_, s191_, s192_, s193_, s194_, s195_, s196_, s197_, s198_, s199_, s200_, s201_, s202_, s203_, s204_, s205_, s206_, s207_, s208_, s209_, s210_, s211_, s212_, s213_, s214_, s215_, s216_, s217_, s218_, s219_, s220_, s221_, s222_, s223_, s224_, s225_, s226_, s227_, s228_, s229_, s230_, s231_, s232_, s233_, s234_, s235_, s236_, s237_, s238_, s239_, s240_, s241_, s242_, s243_, s244_, s245_, s246_, s247_, s248_, s249_, s250_, s251_, s252_, s253_, s254_, s255_, s256_, s257_, s258_, s259_, s260_, s261_, s262_, s263_, s264_, s265_, s266_, s267_, s268_, s269_, s270_, s271_, s272_, s273_, s274_, s275_, s276_, s277_, s278_, s279_, s280_, s281_, s282_, s283_, s284_, s285_, s286_, s287_, s288_, s289_, s290_, s291_, s292_, s293_, s294_, s295_, s296_, s297_, s298_, s299_, s300_, s301_, s302_, s303_, s304_, s305_, s306_, s307_, s308_, s309_, s310_, s311_, s312_, s313_], []⟩ V := by
  subst hc
  conv => arg 2; whnf
  dsimp only
  obtain ⟨ls, hls⟩ : ∃ ls, ls = readsAt r := ⟨_, rfl⟩
  have HLS := hide hls
  have HL := hide hl.out
  rw [← hls] at HL
  have HRUN := hide HS.out.run
  have hn := HL.out.nle
  have HLN := hide HL.out.len
  clear hls hl
  go_upto_region 22 with (fail)
  rename_i K1 hK1 K2 hK2
  have HK1 := hide hK1
  clear hK1
  go_wp2_with fail
  go_loopw [20, 21] (fun o i wr => ∃ (k : Nat) (b : Bool), k ≤ nl ∧ i = .int .i64 k ∧ o = .bool b ∧ wholeC r.cells ls = (b && wholeC r.cells (ls.drop k)) ∧ ∃ u : Ext, wr = V.ext u) (fun _ i _ => nl - (intOf i).toNat)
  case atStart => exact ⟨0, true, Nat.zero_le _, rfl, rfl, by simp, ext_refl V⟩
  case round =>
    obtain ⟨k, b, hk, rfl, rfl, hr, u, rfl⟩ := hrel
    have HRk := hide hr; clear hr
    by_cases hlt : k < nl
    · obtain ⟨b1, off, x, hA, hb, hx, hi, p0, p1⟩ := at_Loc HL.out hlt
      subst hA
      have HX := hide (drop_at hx)
      have HXI := hide hi
      clear hx hi
      obtain ⟨is, his⟩ : ∃ is, is = (r.cells x).isSome := ⟨_, rfl⟩
      have HIS := hide (show wholeC r.cells (ls.drop k) = (is && wholeC r.cells (ls.drop (k + 1))) by
        rw [HX.out, his]; unfold wholeC; simp only [anyF, Bool.not_or]; cases r.cells x <;> rfl)
      have HLC := hide (fun W (hW : Below V.heap.size V W) => his ▸ loc9_any W _ _ _ _ _ (HRUN.out.keep hW) x HXI.out)
      clear his
      cases b
      case false =>
        go_wp2_with (go_at_call 22; refine (HLC.out _ (by repeat (first | exact Below.refl _ _ | assumption | refine Below.alloc ?_ (by simp [size_ext]; try omega) _ | refine Below.ext ?_ (by simp [size_ext]; try omega) _ | refine Below.drew ?_ | refine Below.setCell ?_ (by simp [size_ext]; try omega) _))).mono ?_; rintro e _ ⟨rfl, ul, rfl⟩; dsimp only)
        go_roundw
        case rel => exact ⟨k + 1, false, by omega, by go_num, rfl, by rw [HRk.out]; simp, Below.to_ext (by repeat (first | exact Below.refl _ _ | assumption | refine Below.alloc ?_ (by simp [size_ext]; try omega) _ | refine Below.ext ?_ (by simp [size_ext]; try omega) _ | refine Below.drew ?_ | refine Below.setCell ?_ (by simp [size_ext]; try omega) _))⟩
        case measure => simp [intOf]; omega
      case true =>
        go_wp2_with (go_at_call 22; refine (HLC.out _ (by repeat (first | exact Below.refl _ _ | assumption | refine Below.alloc ?_ (by simp [size_ext]; try omega) _ | refine Below.ext ?_ (by simp [size_ext]; try omega) _ | refine Below.drew ?_ | refine Below.setCell ?_ (by simp [size_ext]; try omega) _))).mono ?_; rintro e _ ⟨rfl, ul, rfl⟩; dsimp only)
        go_roundw
        case rel => exact ⟨k + 1, is, by omega, by go_num, rfl, by rw [HRk.out, HIS.out]; simp, Below.to_ext (by repeat (first | exact Below.refl _ _ | assumption | refine Below.alloc ?_ (by simp [size_ext]; try omega) _ | refine Below.ext ?_ (by simp [size_ext]; try omega) _ | refine Below.drew ?_ | refine Below.setCell ?_ (by simp [size_ext]; try omega) _))⟩
        case measure => simp [intOf]; omega
    · go_wp2_with fail
      refine HK1.out _ _ ?_
      obtain rfl : b = wholeC r.cells (readsAt r) := by rw [← HLS.out, HRk.out, drop_end HLN.out hlt]; simp [wholeC, anyF]
      exact HR.out _ (by kernel_rfl) u _ _ _ _ _ _ _ _ _ _ _ _ _ _ _ _ _ _ _ _ _ _ _ _ _ _ _ _ _ _ _ _ _ _ _ _ _ _ _ _ _ _ _ _ _ _ _ _ _ _ _ _ _ _ _ _ _ _ _ _ _ _ _ _ _ _ _ _ _ _ _ _ _ _ _ _ _ _ _ _ _ _ _ _ _ _ _ _ _ _ _ _ _ _ _ _ _ _ _ _ _ _ _ _ _ _ _ _ _ _ _ _ _ _ _ _ _ _ _ _ _ _ _ _ _ _ _ _ _ _ _ _ _ _ _ _ _ _ _ _ _ _ _ _ _ _ _ _ _ _ _ _ _ _ _ _ _ _ _ _ _ _ _ _ _ _ _ _ _ _ _ _ _ _ _ _ _ _ _ _ _ _ _ _ _ _ _ _ _ _ _ _ _ _ _ _ _ _ _ _ _ _ _ _ _ _ _ _ _ _ _ _ _ _ _ _ _ _ _ _ _ _ _ _ _ _ _ _ _ _ _ _ _ _ _ _ _ _ _ _ _ _ _ _ _ _ _ _ _ _ _ _ _ _
end
end Go.Proofs.Ytkjipgelbjaggaa
