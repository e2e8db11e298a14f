/- Walk: MrunSafe's round: only what is written changes, and what a call loses. -/
import Derived.Test.YtkjipgelbjaggaaS00
import Derived.Test.YtkjipgelbjaggaaM44
import Derived.Test.YtkjipgelbjaggaaM48
import Derived.Deep.Cut
import Derived.Deep.DeepCutAuto
import Derived.BigGuardPart
set_option linter.unusedSimpArgs false
set_option linter.unusedVariables false
namespace Go.Proofs.Ytkjipgelbjaggaa
open Go.RowKit Go.Maps
section
variable (a : SafeA) (w V : World) (m : Machine) (t : Target) (la : List Int) (lh : List Bool) (K M : Nat) (q : RunM) (r s : RunS) (n fuel : Int) (S1 S2 S3 : Nat → Prop) (e0_ e1_ e2_ e6_ e7_ e10_ e33_ e34_ e35_ e36_ e37_ e38_ e39_ e40_ e41_ e42_ e43_ e44_ e45_ e46_ e47_ e48_ e49_ e50_ e51_ e52_ e53_ e54_ e55_ e56_ e57_ e58_ e59_ e60_ e61_ e62_ e63_ e64_ e65_ e66_ e67_ e68_ e69_ e70_ e71_ e72_ : Value)
  (HS : Hd (SafeW a w m t la lh V K q s)) (H1 : Hd (Sl w S1 a.A1 a.n1 a.c1 m.args)) (H2 : Hd (Sl w S2 a.A2 a.n2 a.c2 m.saved)) (H3 : Hd (Sl w S3 a.A a.n a.c t.blocks)) (HM : Hd (s.m = m)) (HT : Hd (s.t = t)) (HI : Hd (RunInv s M)) (HSS : Hd (StepSafe r s))
variable (gx : Nat) (Al Aw Ai : Option Addr) (nl cl nw cw ni ci : Nat)variable (gw : Nat) (Aol Ahl Awc Awm : Option Addr) (col chl nwc cwc nwm cwm : Nat)
variable (gz : Nat) (Azc Azm : Option Addr) (nzc czc nzm czm : Nat)
include HS HSS H2
set_option maxHeartbeats 100000000 in
set_option maxRecDepth 100000 in
theorem safeF (hrm : Hd (r.m = m)) (hN : m.regs + t.frame = a.N) (hN2 : a.N ≤ 1000) (hrg : 0 ≤ m.regs ∧ m.regs ≤ 64) (hw : Hd (Sl V (fun _ => True) Aw nw cw (writesAt r))) (So : Nat → Prop) (HO : Hd (PartO r m a.N So V Aol Ahl col chl))
    (lz : gz < V.heap.size) (z0 : V.cell? ⟨gz, 0, none⟩ = some (.int .i64 s.fin)) (Q : Exit → Act → World → Prop)
    (HR : Hd (∀ c', C42 = c' → ∀ (Afr Ahr : Option Addr) (cfr chr : Nat) (V' : World), Below V.heap.size V V' → PartO s m a.N (fun b => V.heap.size ≤ b ∧ b < V'.heap.size) V' Afr Ahr cfr chr → ∀ (s8_ s21_ s22_ s23_ s30_ s31_ s32_ s73_ s74_ s75_ s76_ s77_ s78_ s79_ s80_ s81_ s82_ s83_ s84_ s85_ s86_ s87_ s88_ s89_ s90_ s91_ s92_ s93_ s94_ s95_ s96_ s97_ s98_ s99_ s100_ s101_ s102_ s103_ s104_ s105_ s106_ s107_ s108_ s109_ s110_ s111_ s112_ s113_ s114_ s115_ s116_ s117_ s118_ s119_ s120_ s121_ s122_ s123_ s124_ s125_ s126_ s127_ s128_ s129_ s130_ s131_ s132_ s133_ s134_ s135_ s136_ s137_ s138_ s139_ s140_ s141_ s142_ s143_ s144_ s145_ s146_ s147_ s148_ s149_ s150_ s151_ s152_ s153_ s154_ s155_ s156_ s157_ s158_ s159_ s160_ s161_ s162_ s163_ s164_ s165_ s166_ s167_ s168_ s169_ s170_ s171_ s172_ s173_ s174_ s175_ s176_ s177_ s178_ s179_ s180_ s181_ s182_ s183_ s184_ s185_ s186_ s187_ s188_ s189_ s190_ s191_ s192_ s193_ s194_ s195_ s196_ s197_ s198_ s199_ s200_ s201_ s202_ s203_ s204_ s205_ s206_ s207_ s208_ s209_ s210_ s211_ s212_ s213_ s214_ s215_ s216_ s217_ s218_ s219_ s220_ s221_ s222_ s223_ s224_ s225_ s226_ s227_ s228_ s229_ s230_ s231_ s232_ s233_ s234_ s235_ s236_ s237_ s238_ s239_ s240_ s241_ s242_ s243_ s244_ s245_ s246_ s247_ s248_ s249_ s250_ s251_ s252_ s253_ s254_ s255_ s256_ s257_ s258_ s259_ s260_ s261_ s262_ s263_ s264_ s265_ s266_ s267_ s268_ s269_ s270_ s271_ s272_ s273_ s274_ s275_ s276_ s277_ s278_ s279_ s280_ s281_ s282_ s283_ s284_ s285_ s286_ s287_ s288_ s289_ s290_ s291_ s292_ s293_ s294_ s295_ s296_ s297_ s298_ s299_ s300_ s301_ s302_ s303_ s304_ s305_ s306_ s307_ s308_ s309_ s310_ s311_ s312_ s313_ : Value), Code.wp Try.prog c' Q ⟨#[e0_, e1_, e2_, .int .i64 fuel, .pointer (some ⟨a.bm, 0, none⟩), .pointer (some ⟨a.bt, 0, none⟩), e6_, e7_, s8_, .pointer (some ⟨a.X, 0, none⟩), e10_, .slice a.Aat a.N a.cat, .slice a.Ahd a.N a.chd, .int .i64 n, .int .i64 r.block, .int .i64 r.ins, .pointer (some ⟨gx, 0, none⟩), .slice Al nl cl, .int .i64 (opAt r), .slice Aw nw cw, .bool (wholeC r.cells (readsAt r)), s21_, s22_, s23_, .pointer (some ⟨gw, 0, none⟩), .slice Aol a.N col, .slice Ahl a.N chl, .pointer (some ⟨gz, 0, none⟩), .slice Afr a.N cfr, .slice Ahr a.N chr, s30_, s31_, s32_, e33_, e34_, e35_, e36_, e37_, e38_, e39_, e40_, e41_, e42_, e43_, e44_, e45_, e46_, e47_, e48_, e49_, e50_, e51_, e52_, e53_, e54_, e55_, e56_, e57_, e58_, e59_, e60_, e61_, e62_, e63_, e64_, e65_, e66_, e67_, e68_, e69_, e70_, e71_, e72_, s73_, s74_, s75_, s76_, s77_, s78_, s79_, s80_, s81_, s82_, s83_, s84_, s85_, s86_, s87_, s88_, s89_, s90_, s91_, s92_, s93_, s94_, s95_, s96_, s97_, s98_, s99_, s100_, s101_, s102_, s103_, s104_, s105_, s106_, s107_, s108_, s109_, s110_, s111_, s112_, s113_, s114_, s115_, s116_, s117_, s118_, s119_, s120_, s121_, s122_, s123_, s124_, s125_, s126_, s127_, s128_, s129_, s130_, s131_, s132_, s133_, s134_, s135_, s136_, s137_, s138_, s139_, s140_, s141_, s142_, s143_, s144_, s145_, s146_, s147_, s148_, s149_, s150_, s151_, s152_, s153_, s154_, s155_, s156_, s157_, s158_, s159_, s160_, s161_, s162_, s163_, s164_, s165_, s166_, s167_, s168_, s169_, s170_, s171_, s172_, s173_, s174_, s175_, s176_, s177_, s178_, s179_, s180_, s181_, s182_, s183_, s184_, s185_, s186_, s187_, s188_, s189_, s190_, s191_, s192_, s193_, s194_, s195_, s196_, s197_, s198_, s199_, s200_, s201_, s202_, s203_, s204_, s205_, s206_, s207_, s208_, s209_, s210_, s211_, s212_, s213_, s214_, s215_, s216_, s217_, s218_, s219_, s220_, s221_, s222_, s223_, s224_, s225_, s226_, s227_, s228_, s229_, s230_, s231_, s232_, s233_, s234_, s235_, s236_, s237_, s238_, s239_, s240_, s241_, s242_, s243_, s244_, s245_, s246_, s247_, s248_, s249_, s250_, s251_, s252_, s253_, s254_, s255_, s256_, s257_, s258_, s259_, s260_, s261_, s262_, s263_, s264_, s265_, s266_, s267_, s268_, s269_, s270_, s271_, s272_, s273_, s274_, s275_, s276_, s277_, s278_, s279_, s280_, s281_, s282_, s283_, s284_, s285_, s286_, s287_, s288_, s289_, s290_, s291_, s292_, s293_, s294_, s295_, s296_, s297_, s298_, s299_, s300_, s301_, s302_, s303_, s304_, s305_, s306_, s307_, s308_, s309_, s310_, s311_, s312_, s313_], []⟩ V'))
    (c : Code) (hc : C34 = c) (s8_ s21_ s22_ s23_ s28_ s29_ s30_ s31_ s32_ s73_ s74_ s75_ s76_ s77_ s78_ s79_ s80_ s81_ s82_ s83_ s84_ s85_ s86_ s87_ s88_ s89_ s90_ s91_ s92_ s93_ s94_ s95_ s96_ s97_ s98_ s99_ s100_ s101_ s102_ s103_ s104_ s105_ s106_ s107_ s108_ s109_ s110_ s111_ s112_ s113_ s114_ s115_ s116_ s117_ s118_ s119_ s120_ s121_ s122_ s123_ s124_ s125_ s126_ s127_ s128_ s129_ s130_ s131_ s132_ s133_ s134_ s135_ s136_ s137_ s138_ s139_ s140_ s141_ s142_ s143_ s144_ s145_ s146_ s147_ s148_ s149_ s150_ s151_ s152_ s153_ s154_ s155_ s156_ s157_ s158_ s159_ s160_ s161_ s162_ s163_ s164_ s165_ s166_ s167_ s168_ s169_ s170_ s171_ s172_ s173_ s174_ s175_ s176_ s177_ s178_ s179_ s180_ s181_ s182_ s183_ s184_ s185_ s186_ s187_ s188_ s189_ s190_ s191_ s192_ s193_ s194_ s195_ s196_ s197_ s198_ s199_ s200_ s201_ s202_ s203_ s204_ s205_ s206_ s207_ s208_ s209_ s210_ s211_ s212_ s213_ s214_ s215_ s216_ s217_ s218_ s219_ s220_ s221_ s222_ s223_ s224_ s225_ s226_ s227_ s228_ s229_ s230_ s231_ s232_ s233_ s234_ s235_ s236_ s237_ s238_ s239_ s240_ s241_ s242_ s243_ s244_ s245_ s246_ s247_ s248_ s249_ s250_ s251_ s252_ s253_ s254_ s255_ s256_ s257_ s258_ s259_ s260_ s261_ s262_ s263_ s264_ s265_ s266_ s267_ s268_ s269_ s270_ s271_ s272_ s273_ s274_ s275_ s276_ s277_ s278_ s279_ s280_ s281_ s282_ s283_ s284_ s285_ s286_ s287_ s288_ s289_ s290_ s291_ s292_ s293_ s294_ s295_ s296_ s297_ s298_ s299_ s300_ s301_ s302_ s303_ s304_ s305_ s306_ s307_ s308_ s309_ s310_ s311_ s312_ s313_ : Value) : Code.wp Try.prog c Q ⟨#[e0_, e1_, e2_, .int .i64 fuel, .pointer (some ⟨a.bm, 0, none⟩), .pointer (some ⟨a.bt, 0, none⟩), e6_, e7_, s8_, .pointer (some ⟨a.X, 0, none⟩), e10_, .slice a.Aat a.N a.cat, .slice a.Ahd a.N a.chd, .int .i64 n, .int .i64 r.block, .int .i64 r.ins, .pointer (some ⟨gx, 0, none⟩), .slice Al nl cl, .int .i64 (opAt r), .slice Aw nw cw, .bool (wholeC r.cells (readsAt r)), s21_, s22_, s23_, .pointer (some ⟨gw, 0, none⟩), .slice Aol a.N col, .slice Ahl a.N chl, .pointer (some ⟨gz, 0, none⟩), s28_, s29_, s30_, s31_, s32_, e33_, e34_, e35_, e36_, e37_, e38_, e39_, e40_, e41_, e42_, e43_, e44_, e45_, e46_, e47_, e48_, e49_, e50_, e51_, e52_, e53_, e54_, e55_, e56_, e57_, e58_, e59_, e60_, e61_, e62_, e63_, e64_, e65_, e66_, e67_, e68_, e69_, e70_, e71_, e72_, s73_, s74_, s75_, s76_, s77_, s78_, s79_, s80_, s81_, s82_, s83_, s84_, s85_, s86_, s87_, s88_, s89_, s90_, s91_, s92_, s93_, s94_, s95_, s96_, s97_, s98_, s99_, s100_, s101_, s102_, s103_, s104_, s105_, s106_, s107_, s108_, s109_, s110_, s111_, s112_, s113_, s114_, s115_, s116_, s117_, s118_, s119_, s120_, s121_, s122_, s123_, s124_, s125_, s126_, s127_, s128_, s129_, s130_, s131_, s132_, s133_, s134_, s135_, s136_, s137_, s138_, s139_, s140_, s141_, s142_, s143_, s144_, s145_, s146_, s147_, s148_, s149_, s150_, s151_, s152_, s153_, s154_, s155_, s156_, s157_, s158_, s159_, s160_, s161_, s162_, s163_, s164_, s165_, s166_, s167_, s168_, s169_, s170_, s171_, s172_, s173_, s174_, s175_, s176_, s177_, s178_, s179_, s180_, s181_, s182_, s183_, s184_, s185_, s186_, s187_, s188_, s189_, s190_, s191_, s192_, s193_, s194_, s195_, s196_, s197_, s198_, s199_, s200_, s201_, s202_, s203_, s204_, s205_, s206_, s207_, s208_, s209_, s210_, s211_, s212_, s213_, s214_, s215_, s216_, s217_, s218_, s219_, s220_, s221_, s222_, s223_, s224_, s225_, s226_, s227_, s228_, s229_, s230_, s231_, s232_, s233_, s234_, s235_, s236_, s237_, s238_, s239_, s240_, s241_, s242_, s243_, s244_, s245_, s246_, s247_, s248_, s249_, s250_, s251_, s252_, s253_, s254_, s255_, s256_, s257_, s258_, s259_, s260_, s261_, s262_, s263_, s264_, s265_, s266_, s267_, s268_, s269_, s270_, s271_, s272_, s273_, s274_, s275_, s276_, s277_, s278_, s279_, s280_, s281_, s282_, s283_, s284_, s285_, s286_, s287_, s288_, s289_, s290_, s291_, s292_, s293_, s294_, s295_, s296_, s297_, s298_, s299_, s300_, s301_, s302_, s303_, s304_, s305_, s306_, s307_, s308_, s309_, s310_, s311_, s312_, s313_], []⟩ V := by
  subst hc
  conv => arg 2; whnf
  dsimp only
  have HRUN := hide HS.out.run
  have HNN := hide hN; have HRG := hide hrg
  have p0 := HS.out.p0; have p1 := HS.out.p1; have p2 := HS.out.p2; have p3 := HS.out.p3; have q0 := HS.out.q0; have q1 := HS.out.q1
  have lm := HS.out.lmV; have lt := HS.out.ltV
  clear hN hrg
  go_upto_region 35 with (go_at_call 17; refine (cells9_any V _ _ _ _ _ HRUN.out m a.A1 a.A2 a.n1 a.c1 a.n2 a.c2 t a.A a.n a.c a.N HNN.out hN2 HRG.out).mono ?_; rintro e _ ⟨Afr, cfr, Ahr, chr, rfl, ho, hh, uy, rfl⟩; have HOs := hide ho; have HHs := hide hh; clear ho hh; dsimp only)
  rename_i K1 hK1 K2 hK2
  have HK1 := hide hK1
  clear hK1
  refine name_world fun Y hY => ?_
  have HBY := hide (show Below V.heap.size V Y by rw [hY]; exact Below.of_ext _ _ (Nat.le_refl _))
  have hsY := HBY.out.size
  rw [← hY] at HOs HHs
  have p0Y : Y.cell? ⟨a.bm, 0, none⟩ = some (.int .i64 m.regs) := by rw [HBY.out.cell lm]; exact p0
  have p1Y : Y.cell? ⟨a.bm, 1, none⟩ = some (.slice a.A1 a.n1 a.c1) := by rw [HBY.out.cell lm]; exact p1
  have p2Y : Y.cell? ⟨a.bm, 2, none⟩ = some (.int .i64 m.ret) := by rw [HBY.out.cell lm]; exact p2
  have p3Y : Y.cell? ⟨a.bm, 3, none⟩ = some (.slice a.A2 a.n2 a.c2) := by rw [HBY.out.cell lm]; exact p3
  have z0Y : Y.cell? ⟨gz, 0, none⟩ = some (.int .i64 s.fin) := by rw [HBY.out.cell lz]; exact z0
  have lmY : a.bm < Y.heap.size := by omega
  have lzY : gz < Y.heap.size := by omega
  have HOY := hide (HO.out.o.keep hsY (S := So) (fun b _ hb => HBY.out.block b hb))
  have HHY := hide (HO.out.h.keep hsY (S := So) (fun b _ hb => HBY.out.block b hb))
  have HWY := hide (hw.out.belowAll HBY.out)
  have H2Y := hide (H2.out.belowAll (HS.out.fr.trans (HBY.out.mono HS.out.fr.size)))
  have HPO := hide (show PartO s m a.N (fun b => V.heap.size ≤ b ∧ b < Y.heap.size) Y Afr Ahr cfr chr from ⟨HOs.out, HHs.out⟩)
  clear hY p0 p1 p2 p3 q0 q1 z0 lm lt lz
  go_wp2_with fail
  go_loopw [30] (fun i wr => ∃ k : Nat, k ≤ a.N ∧ i = .int .i64 k ∧ ∃ u : Ext, wr = Y.ext u) (fun i _ => a.N - (intOf i).toNat)
  case atStart => exact ⟨0, Nat.zero_le _, rfl, ext_refl Y⟩
  case round =>
    obtain ⟨V3, rfl⟩ : ∃ V3, V3 = wr := ⟨_, rfl⟩
    obtain ⟨k, hk, rfl, hu⟩ := hrel
    have HB3 := hide (show Below Y.heap.size Y V3 by obtain ⟨u, rfl⟩ := hu; exact Below.of_ext _ _ (Nat.le_refl _))
    have HU := hide hu
    clear hu
    by_cases hlt : k < a.N
    · obtain ⟨b1, f1, x1, hA1, hb1, hx1, _, hc1⟩ := at_int HOs.out hlt
      obtain ⟨b2, f2, x2, hA2, hb2, hx2, hc2⟩ := at_bool HHs.out hlt
      obtain ⟨b3, f3, x3, hA3, hb3, hx3, _, hc3⟩ := at_int HOY.out hlt
      obtain ⟨b4, f4, x4, hA4, hb4, hx4, hc4⟩ := at_bool HHY.out hlt
      obtain rfl : (s.cells (placeN m k)).getD 0 = x1 := by rw [valsR_at s m hlt] at hx1; exact Option.some.inj hx1
      obtain rfl : (s.cells (placeN m k)).isSome = x2 := by rw [hasR_at s m hlt] at hx2; exact Option.some.inj hx2
      obtain rfl : (r.cells (placeN m k)).getD 0 = x3 := by rw [valsR_at r m hlt] at hx3; exact Option.some.inj hx3
      obtain rfl : (r.cells (placeN m k)).isSome = x4 := by rw [hasR_at r m hlt] at hx4; exact Option.some.inj hx4
      subst hA1 hA2 hA3 hA4
      clear hx1 hx2 hx3 hx4
      have hkN : (k : Int) < a.N := by omega
      have hs3 := HB3.out.size
      have p0V : V3.cell? ⟨a.bm, 0, none⟩ = some (.int .i64 m.regs) := by rw [HB3.out.cell lmY]; exact p0Y
      have p1V : V3.cell? ⟨a.bm, 1, none⟩ = some (.slice a.A1 a.n1 a.c1) := by rw [HB3.out.cell lmY]; exact p1Y
      have p2V : V3.cell? ⟨a.bm, 2, none⟩ = some (.int .i64 m.ret) := by rw [HB3.out.cell lmY]; exact p2Y
      have p3V : V3.cell? ⟨a.bm, 3, none⟩ = some (.slice a.A2 a.n2 a.c2) := by rw [HB3.out.cell lmY]; exact p3Y
      have lm3 : a.bm < V3.heap.size := by omega
      go_upto_region 39 with (go_at_call 25; refine (place9_any _ m a.A1 a.A2 a.n1 a.c1 a.n2 a.c2 k (by omega) HRG.out).mono ?_; rintro e _ ⟨rfl, ux, rfl⟩; dsimp only)
      refine name_world fun Z hZ => ?_
      have HBZ := hide (show Below V3.heap.size V3 Z by rw [hZ]; exact (by repeat (first | exact Below.refl _ _ | assumption | refine Below.alloc ?_ (by simp [size_ext]; try omega) _ | refine Below.ext ?_ (by simp [size_ext]; try omega) _ | refine Below.drew ?_ | refine Below.setCell ?_ (by simp [size_ext]; try omega) _)))
      have hsZ := HBZ.out.size
      have hgp : V3.heap.size + ux.blocks.size < Z.heap.size := by rw [hZ]; simp [size_ext]
      have g0 : Z.cell? ⟨V3.heap.size + ux.blocks.size, 0, none⟩ = some (.bool (placeN m k).slot) := by rw [hZ]; go_simp
      have g1 : Z.cell? ⟨V3.heap.size + ux.blocks.size, 1, none⟩ = some (.int .i64 (placeN m k).n) := by rw [hZ]; go_simp
      obtain ⟨gp, hgpe⟩ : ∃ gp, gp = V3.heap.size + ux.blocks.size := ⟨_, rfl⟩
      rw [← hgpe] at hgp g0 g1
      simp only [← hgpe]
      have HYZ := hide (HB3.out.trans (HBZ.out.mono hs3))
      have hYZ : Y.heap.size ≤ Z.heap.size := by omega
      have p0 : Z.cell? ⟨a.bm, 0, none⟩ = some (.int .i64 m.regs) := by rw [HYZ.out.cell lmY]; exact p0Y
      have p1 : Z.cell? ⟨a.bm, 1, none⟩ = some (.slice a.A1 a.n1 a.c1) := by rw [HYZ.out.cell lmY]; exact p1Y
      have p2' : Z.cell? ⟨a.bm, 2, none⟩ = some (.int .i64 m.ret) := by rw [HYZ.out.cell lmY]; exact p2Y
      have p3 : Z.cell? ⟨a.bm, 3, none⟩ = some (.slice a.A2 a.n2 a.c2) := by rw [HYZ.out.cell lmY]; exact p3Y
      have lmZ : a.bm < Z.heap.size := by omega
      have lm := lmY; have lz := lzY; have p2 := p2Y; have z0 := z0Y
      clear hZ hgpe p0V p1V p2V p3V
      obtain ⟨iw, hiw⟩ : ∃ iw, iw = anyF (fun x => x == placeN m k) (writesAt r) := ⟨_, rfl⟩
      have HIN := hide (fun (W : World) (hW : Below Z.heap.size Z W) => hiw ▸ in9_any W _ _ _ _ _ ((HWY.out.belowAll HYZ.out).belowAll hW) (placeN m k))
      obtain ⟨hs, hhs⟩ : ∃ hs, hs = hasI (placeN m k).n m.saved := ⟨_, rfl⟩
      have HSV := hide (fun (W : World) (hW : Below Z.heap.size Z W) => hhs ▸ isSaved_any W S2 m (.slice a.A1 a.n1 a.c1) a.A2 a.n2 a.c2 ((H2Y.out.belowAll HYZ.out).belowAll hW) (placeN m k).n)
      have HIW := hide (show iw = false → placeN m k ∉ writesAt r from fun h hm => by
        rw [hiw] at h
        have := anyF_none h _ hm
        simp at this)
      have HHH := hide hhs
      clear hiw hhs
      obtain ⟨bs, hbs⟩ : ∃ bs, bs = (placeN m k).slot := ⟨_, rfl⟩
      have HBS := hide hbs
      rw [← hbs] at g0
      clear hbs
      by_cases ho : opAt r = 13
      · have o1 : (opAt r == 13) = true := by simpa using ho
        have HOP := hide ho
        clear ho
        cases bs
        case true =>
          have HFRM := hide (fun (h : iw = false) => HSS.out.frame (placeN m k) (HIW.out h) (.inr (by unfold lostAt; rw [← HBS.out]; rfl)))
          have HIN' := hide HIN.out
          rw [← HBS.out] at HIN'
          clear HIN
          have HIN := HIN'
          clear HIN'
          cases iw
          case false =>
            have HEQ := hide (HFRM.out rfl)
            go_upto_region 40 with (go_at_call 26; refine (HSV.out _ (by repeat (first | exact Below.refl _ _ | assumption | refine Below.alloc ?_ (by simp [size_ext]; try omega) _ | refine Below.ext ?_ (by simp [size_ext]; try omega) _ | refine Below.drew ?_ | refine Below.setCell ?_ (by simp [size_ext]; try omega) _))).mono ?_; rintro e _ ⟨rfl, uz, rfl⟩; dsimp only)
            refine name_world fun Z2 hZ2 => ?_
            have HB2 := hide (show Below Z.heap.size Z Z2 by rw [hZ2]; exact (by repeat (first | exact Below.refl _ _ | assumption | exact Hd.out (by assumption) | refine Below.alloc ?_ (by first | omega | (simp [size_ext]; try omega)) _ | refine Below.ext ?_ (by first | omega | (simp [size_ext]; try omega)) _ | refine Below.drew ?_ | refine Below.setCell ?_ (by first | omega | (simp [size_ext]; try omega)) _)))
            have HY2 := hide (HYZ.out.trans (HB2.out.mono hYZ))
            have hs2 := HB2.out.size
            clear hZ2
            have g0_2 : Z2.cell? ⟨gp, 0, none⟩ = some (.bool true) := by rw [HB2.out.cell hgp]; exact g0
            have g1_2 : Z2.cell? ⟨gp, 1, none⟩ = some (.int .i64 (placeN m k).n) := by rw [HB2.out.cell hgp]; exact g1
            have z0_2 : Z2.cell? ⟨gz, 0, none⟩ = some (.int .i64 s.fin) := by rw [HY2.out.cell lz]; exact z0
            have p2_2 : Z2.cell? ⟨a.bm, 2, none⟩ = some (.int .i64 m.ret) := by rw [HY2.out.cell lm]; exact p2
            have v1_2 : Z2.cell? ⟨b1, f1 + k, none⟩ = some (.int .i64 ((s.cells (placeN m k)).getD 0)) := by rw [HY2.out.cell hb1]; exact hc1
            have v2_2 : Z2.cell? ⟨b2, f2 + k, none⟩ = some (.bool (s.cells (placeN m k)).isSome) := by rw [HY2.out.cell hb2]; exact hc2
            have v3_2 : Z2.cell? ⟨b3, f3 + k, none⟩ = some (.int .i64 ((r.cells (placeN m k)).getD 0)) := by rw [HY2.out.cell hb3]; exact hc3
            have v4_2 : Z2.cell? ⟨b4, f4 + k, none⟩ = some (.bool (r.cells (placeN m k)).isSome) := by rw [HY2.out.cell hb4]; exact hc4
            have l0 : gp < Z2.heap.size := by omega
            have l1 : gz < Z2.heap.size := by omega
            have l2 : a.bm < Z2.heap.size := by omega
            have l3 : b1 < Z2.heap.size := by omega
            have l4 : b2 < Z2.heap.size := by omega
            have l5 : b3 < Z2.heap.size := by omega
            have l6 : b4 < Z2.heap.size := by omega
            rw [HEQ.out] at v1_2 v2_2
            have n1 : ((r.cells (placeN m k)).getD 0 != (r.cells (placeN m k)).getD 0) = false := by simp
            have n2 : ((r.cells (placeN m k)).isSome != (r.cells (placeN m k)).isSome) = false := by simp
            refine wp_region_ext (by kernel_rfl) (by kernel_rfl) ?_
            repeat (any_goals (first | go_big_quiet_step (((go_at_call 27; with_reducible exact quiet_retx (HIN.out _ (HB2.out.ext hs2 _))))) | quiet_step (((go_at_call 27; with_reducible exact quiet_retx (HIN.out _ (HB2.out.ext hs2 _)))))))
            refine wpQuiet_nil ?_
            rintro _ ⟨uq, rfl⟩
            go_wp2_with fail
            go_roundw
            case rel => exact ⟨k + 1, by omega, by go_num, Below.to_ext (HY2.out.ext (by omega) _)⟩
            case measure => simp [intOf]; omega
          case true =>
            go_upto_region 40 with (go_at_call 26; refine (HSV.out _ (by repeat (first | exact Below.refl _ _ | assumption | refine Below.alloc ?_ (by simp [size_ext]; try omega) _ | refine Below.ext ?_ (by simp [size_ext]; try omega) _ | refine Below.drew ?_ | refine Below.setCell ?_ (by simp [size_ext]; try omega) _))).mono ?_; rintro e _ ⟨rfl, uz, rfl⟩; dsimp only)
            refine name_world fun Z2 hZ2 => ?_
            have HB2 := hide (show Below Z.heap.size Z Z2 by rw [hZ2]; exact (by repeat (first | exact Below.refl _ _ | assumption | exact Hd.out (by assumption) | refine Below.alloc ?_ (by first | omega | (simp [size_ext]; try omega)) _ | refine Below.ext ?_ (by first | omega | (simp [size_ext]; try omega)) _ | refine Below.drew ?_ | refine Below.setCell ?_ (by first | omega | (simp [size_ext]; try omega)) _)))
            have HY2 := hide (HYZ.out.trans (HB2.out.mono hYZ))
            have hs2 := HB2.out.size
            clear hZ2
            have g0_2 : Z2.cell? ⟨gp, 0, none⟩ = some (.bool true) := by rw [HB2.out.cell hgp]; exact g0
            have g1_2 : Z2.cell? ⟨gp, 1, none⟩ = some (.int .i64 (placeN m k).n) := by rw [HB2.out.cell hgp]; exact g1
            have z0_2 : Z2.cell? ⟨gz, 0, none⟩ = some (.int .i64 s.fin) := by rw [HY2.out.cell lz]; exact z0
            have p2_2 : Z2.cell? ⟨a.bm, 2, none⟩ = some (.int .i64 m.ret) := by rw [HY2.out.cell lm]; exact p2
            have v1_2 : Z2.cell? ⟨b1, f1 + k, none⟩ = some (.int .i64 ((s.cells (placeN m k)).getD 0)) := by rw [HY2.out.cell hb1]; exact hc1
            have v2_2 : Z2.cell? ⟨b2, f2 + k, none⟩ = some (.bool (s.cells (placeN m k)).isSome) := by rw [HY2.out.cell hb2]; exact hc2
            have v3_2 : Z2.cell? ⟨b3, f3 + k, none⟩ = some (.int .i64 ((r.cells (placeN m k)).getD 0)) := by rw [HY2.out.cell hb3]; exact hc3
            have v4_2 : Z2.cell? ⟨b4, f4 + k, none⟩ = some (.bool (r.cells (placeN m k)).isSome) := by rw [HY2.out.cell hb4]; exact hc4
            have l0 : gp < Z2.heap.size := by omega
            have l1 : gz < Z2.heap.size := by omega
            have l2 : a.bm < Z2.heap.size := by omega
            have l3 : b1 < Z2.heap.size := by omega
            have l4 : b2 < Z2.heap.size := by omega
            have l5 : b3 < Z2.heap.size := by omega
            have l6 : b4 < Z2.heap.size := by omega
            refine wp_region_ext (by kernel_rfl) (by kernel_rfl) ?_
            repeat (any_goals (first | go_big_quiet_step (((go_at_call 27; with_reducible exact quiet_retx (HIN.out _ (HB2.out.ext hs2 _))))) | quiet_step (((go_at_call 27; with_reducible exact quiet_retx (HIN.out _ (HB2.out.ext hs2 _)))))))
            refine wpQuiet_nil ?_
            rintro _ ⟨uq, rfl⟩
            go_wp2_with fail
            go_roundw
            case rel => exact ⟨k + 1, by omega, by go_num, Below.to_ext (HY2.out.ext (by omega) _)⟩
            case measure => simp [intOf]; omega
        case false =>
          have HIN' := hide HIN.out
          rw [← HBS.out] at HIN'
          clear HIN
          have HIN := HIN'
          clear HIN'
          cases hs
          case true =>
            have HFRM := hide (fun (h : iw = false) => HSS.out.frame (placeN m k) (HIW.out h) (.inr (by unfold lostAt; rw [hrm.out, ← HHH.out]; simp)))
            cases iw
            case false =>
              have HEQ := hide (HFRM.out rfl)
              go_upto_region 40 with (go_at_call 26; refine (HSV.out _ (by repeat (first | exact Below.refl _ _ | assumption | refine Below.alloc ?_ (by simp [size_ext]; try omega) _ | refine Below.ext ?_ (by simp [size_ext]; try omega) _ | refine Below.drew ?_ | refine Below.setCell ?_ (by simp [size_ext]; try omega) _))).mono ?_; rintro e _ ⟨rfl, uz, rfl⟩; dsimp only)
              refine name_world fun Z2 hZ2 => ?_
              have HB2 := hide (show Below Z.heap.size Z Z2 by rw [hZ2]; exact (by repeat (first | exact Below.refl _ _ | assumption | exact Hd.out (by assumption) | refine Below.alloc ?_ (by first | omega | (simp [size_ext]; try omega)) _ | refine Below.ext ?_ (by first | omega | (simp [size_ext]; try omega)) _ | refine Below.drew ?_ | refine Below.setCell ?_ (by first | omega | (simp [size_ext]; try omega)) _)))
              have HY2 := hide (HYZ.out.trans (HB2.out.mono hYZ))
              have hs2 := HB2.out.size
              clear hZ2
              have g0_2 : Z2.cell? ⟨gp, 0, none⟩ = some (.bool false) := by rw [HB2.out.cell hgp]; exact g0
              have g1_2 : Z2.cell? ⟨gp, 1, none⟩ = some (.int .i64 (placeN m k).n) := by rw [HB2.out.cell hgp]; exact g1
              have z0_2 : Z2.cell? ⟨gz, 0, none⟩ = some (.int .i64 s.fin) := by rw [HY2.out.cell lz]; exact z0
              have p2_2 : Z2.cell? ⟨a.bm, 2, none⟩ = some (.int .i64 m.ret) := by rw [HY2.out.cell lm]; exact p2
              have v1_2 : Z2.cell? ⟨b1, f1 + k, none⟩ = some (.int .i64 ((s.cells (placeN m k)).getD 0)) := by rw [HY2.out.cell hb1]; exact hc1
              have v2_2 : Z2.cell? ⟨b2, f2 + k, none⟩ = some (.bool (s.cells (placeN m k)).isSome) := by rw [HY2.out.cell hb2]; exact hc2
              have v3_2 : Z2.cell? ⟨b3, f3 + k, none⟩ = some (.int .i64 ((r.cells (placeN m k)).getD 0)) := by rw [HY2.out.cell hb3]; exact hc3
              have v4_2 : Z2.cell? ⟨b4, f4 + k, none⟩ = some (.bool (r.cells (placeN m k)).isSome) := by rw [HY2.out.cell hb4]; exact hc4
              have l0 : gp < Z2.heap.size := by omega
              have l1 : gz < Z2.heap.size := by omega
              have l2 : a.bm < Z2.heap.size := by omega
              have l3 : b1 < Z2.heap.size := by omega
              have l4 : b2 < Z2.heap.size := by omega
              have l5 : b3 < Z2.heap.size := by omega
              have l6 : b4 < Z2.heap.size := by omega
              rw [HEQ.out] at v1_2 v2_2
              have n1 : ((r.cells (placeN m k)).getD 0 != (r.cells (placeN m k)).getD 0) = false := by simp
              have n2 : ((r.cells (placeN m k)).isSome != (r.cells (placeN m k)).isSome) = false := by simp
              refine wp_region_ext (by kernel_rfl) (by kernel_rfl) ?_
              repeat (any_goals (first | go_big_quiet_step (((go_at_call 27; with_reducible exact quiet_retx (HIN.out _ (HB2.out.ext hs2 _))))) | quiet_step (((go_at_call 27; with_reducible exact quiet_retx (HIN.out _ (HB2.out.ext hs2 _)))))))
              refine wpQuiet_nil ?_
              rintro _ ⟨uq, rfl⟩
              go_wp2_with fail
              go_roundw
              case rel => exact ⟨k + 1, by omega, by go_num, Below.to_ext (HY2.out.ext (by omega) _)⟩
              case measure => simp [intOf]; omega
            case true =>
              go_upto_region 40 with (go_at_call 26; refine (HSV.out _ (by repeat (first | exact Below.refl _ _ | assumption | refine Below.alloc ?_ (by simp [size_ext]; try omega) _ | refine Below.ext ?_ (by simp [size_ext]; try omega) _ | refine Below.drew ?_ | refine Below.setCell ?_ (by simp [size_ext]; try omega) _))).mono ?_; rintro e _ ⟨rfl, uz, rfl⟩; dsimp only)
              refine name_world fun Z2 hZ2 => ?_
              have HB2 := hide (show Below Z.heap.size Z Z2 by rw [hZ2]; exact (by repeat (first | exact Below.refl _ _ | assumption | exact Hd.out (by assumption) | refine Below.alloc ?_ (by first | omega | (simp [size_ext]; try omega)) _ | refine Below.ext ?_ (by first | omega | (simp [size_ext]; try omega)) _ | refine Below.drew ?_ | refine Below.setCell ?_ (by first | omega | (simp [size_ext]; try omega)) _)))
              have HY2 := hide (HYZ.out.trans (HB2.out.mono hYZ))
              have hs2 := HB2.out.size
              clear hZ2
              have g0_2 : Z2.cell? ⟨gp, 0, none⟩ = some (.bool false) := by rw [HB2.out.cell hgp]; exact g0
              have g1_2 : Z2.cell? ⟨gp, 1, none⟩ = some (.int .i64 (placeN m k).n) := by rw [HB2.out.cell hgp]; exact g1
              have z0_2 : Z2.cell? ⟨gz, 0, none⟩ = some (.int .i64 s.fin) := by rw [HY2.out.cell lz]; exact z0
              have p2_2 : Z2.cell? ⟨a.bm, 2, none⟩ = some (.int .i64 m.ret) := by rw [HY2.out.cell lm]; exact p2
              have v1_2 : Z2.cell? ⟨b1, f1 + k, none⟩ = some (.int .i64 ((s.cells (placeN m k)).getD 0)) := by rw [HY2.out.cell hb1]; exact hc1
              have v2_2 : Z2.cell? ⟨b2, f2 + k, none⟩ = some (.bool (s.cells (placeN m k)).isSome) := by rw [HY2.out.cell hb2]; exact hc2
              have v3_2 : Z2.cell? ⟨b3, f3 + k, none⟩ = some (.int .i64 ((r.cells (placeN m k)).getD 0)) := by rw [HY2.out.cell hb3]; exact hc3
              have v4_2 : Z2.cell? ⟨b4, f4 + k, none⟩ = some (.bool (r.cells (placeN m k)).isSome) := by rw [HY2.out.cell hb4]; exact hc4
              have l0 : gp < Z2.heap.size := by omega
              have l1 : gz < Z2.heap.size := by omega
              have l2 : a.bm < Z2.heap.size := by omega
              have l3 : b1 < Z2.heap.size := by omega
              have l4 : b2 < Z2.heap.size := by omega
              have l5 : b3 < Z2.heap.size := by omega
              have l6 : b4 < Z2.heap.size := by omega
              refine wp_region_ext (by kernel_rfl) (by kernel_rfl) ?_
              repeat (any_goals (first | go_big_quiet_step (((go_at_call 27; with_reducible exact quiet_retx (HIN.out _ (HB2.out.ext hs2 _))))) | quiet_step (((go_at_call 27; with_reducible exact quiet_retx (HIN.out _ (HB2.out.ext hs2 _)))))))
              refine wpQuiet_nil ?_
              rintro _ ⟨uq, rfl⟩
              go_wp2_with fail
              go_roundw
              case rel => exact ⟨k + 1, by omega, by go_num, Below.to_ext (HY2.out.ext (by omega) _)⟩
              case measure => simp [intOf]; omega
          case false =>
            have hpk : (k : Int) < m.regs ∧ (placeN m k).n = k := by
              have e := HBS.out
              unfold placeN at e ⊢
              split at e
              · rename_i h; rw [if_pos h]; exact ⟨h, rfl⟩
              · cases e
            have HLS := hide (fun (h : s.fin = 0) => show (s.cells (placeN m k)).isSome = ((placeN m k).n == m.ret) from by
              have := HSS.out.lost (placeN m k) HOP.out (by unfold lostAt; rw [hrm.out, ← HHH.out, ← HBS.out]; rfl) (by rw [hrm.out, hpk.2]; exact ⟨by omega, hpk.1⟩) h
              rw [hrm.out] at this; exact this)
            clear hpk
            by_cases h0 : s.fin = 0
            case pos =>
              cases iw
              case false =>
                go_upto_region 40 with (go_at_call 26; refine (HSV.out _ (by repeat (first | exact Below.refl _ _ | assumption | refine Below.alloc ?_ (by simp [size_ext]; try omega) _ | refine Below.ext ?_ (by simp [size_ext]; try omega) _ | refine Below.drew ?_ | refine Below.setCell ?_ (by simp [size_ext]; try omega) _))).mono ?_; rintro e _ ⟨rfl, uz, rfl⟩; dsimp only)
                refine name_world fun Z2 hZ2 => ?_
                have HB2 := hide (show Below Z.heap.size Z Z2 by rw [hZ2]; exact (by repeat (first | exact Below.refl _ _ | assumption | exact Hd.out (by assumption) | refine Below.alloc ?_ (by first | omega | (simp [size_ext]; try omega)) _ | refine Below.ext ?_ (by first | omega | (simp [size_ext]; try omega)) _ | refine Below.drew ?_ | refine Below.setCell ?_ (by first | omega | (simp [size_ext]; try omega)) _)))
                have HY2 := hide (HYZ.out.trans (HB2.out.mono hYZ))
                have hs2 := HB2.out.size
                clear hZ2
                have g0_2 : Z2.cell? ⟨gp, 0, none⟩ = some (.bool false) := by rw [HB2.out.cell hgp]; exact g0
                have g1_2 : Z2.cell? ⟨gp, 1, none⟩ = some (.int .i64 (placeN m k).n) := by rw [HB2.out.cell hgp]; exact g1
                have z0_2 : Z2.cell? ⟨gz, 0, none⟩ = some (.int .i64 s.fin) := by rw [HY2.out.cell lz]; exact z0
                have p2_2 : Z2.cell? ⟨a.bm, 2, none⟩ = some (.int .i64 m.ret) := by rw [HY2.out.cell lm]; exact p2
                have v1_2 : Z2.cell? ⟨b1, f1 + k, none⟩ = some (.int .i64 ((s.cells (placeN m k)).getD 0)) := by rw [HY2.out.cell hb1]; exact hc1
                have v2_2 : Z2.cell? ⟨b2, f2 + k, none⟩ = some (.bool (s.cells (placeN m k)).isSome) := by rw [HY2.out.cell hb2]; exact hc2
                have v3_2 : Z2.cell? ⟨b3, f3 + k, none⟩ = some (.int .i64 ((r.cells (placeN m k)).getD 0)) := by rw [HY2.out.cell hb3]; exact hc3
                have v4_2 : Z2.cell? ⟨b4, f4 + k, none⟩ = some (.bool (r.cells (placeN m k)).isSome) := by rw [HY2.out.cell hb4]; exact hc4
                have l0 : gp < Z2.heap.size := by omega
                have l1 : gz < Z2.heap.size := by omega
                have l2 : a.bm < Z2.heap.size := by omega
                have l3 : b1 < Z2.heap.size := by omega
                have l4 : b2 < Z2.heap.size := by omega
                have l5 : b3 < Z2.heap.size := by omega
                have l6 : b4 < Z2.heap.size := by omega
                have e1 : (s.fin == 0) = true := by simpa using h0
                rw [HLS.out h0] at v2_2
                refine wp_region_ext (by kernel_rfl) (by kernel_rfl) ?_
                repeat (any_goals (first | go_big_quiet_step (((go_at_call 27; with_reducible exact quiet_retx (HIN.out _ (HB2.out.ext hs2 _))))) | quiet_step (((go_at_call 27; with_reducible exact quiet_retx (HIN.out _ (HB2.out.ext hs2 _)))))))
                refine wpQuiet_nil ?_
                rintro _ ⟨uq, rfl⟩
                go_wp2_with fail
                go_roundw
                case rel => exact ⟨k + 1, by omega, by go_num, Below.to_ext (HY2.out.ext (by omega) _)⟩
                case measure => simp [intOf]; omega
              case true =>
                go_upto_region 40 with (go_at_call 26; refine (HSV.out _ (by repeat (first | exact Below.refl _ _ | assumption | refine Below.alloc ?_ (by simp [size_ext]; try omega) _ | refine Below.ext ?_ (by simp [size_ext]; try omega) _ | refine Below.drew ?_ | refine Below.setCell ?_ (by simp [size_ext]; try omega) _))).mono ?_; rintro e _ ⟨rfl, uz, rfl⟩; dsimp only)
                refine name_world fun Z2 hZ2 => ?_
                have HB2 := hide (show Below Z.heap.size Z Z2 by rw [hZ2]; exact (by repeat (first | exact Below.refl _ _ | assumption | exact Hd.out (by assumption) | refine Below.alloc ?_ (by first | omega | (simp [size_ext]; try omega)) _ | refine Below.ext ?_ (by first | omega | (simp [size_ext]; try omega)) _ | refine Below.drew ?_ | refine Below.setCell ?_ (by first | omega | (simp [size_ext]; try omega)) _)))
                have HY2 := hide (HYZ.out.trans (HB2.out.mono hYZ))
                have hs2 := HB2.out.size
                clear hZ2
                have g0_2 : Z2.cell? ⟨gp, 0, none⟩ = some (.bool false) := by rw [HB2.out.cell hgp]; exact g0
                have g1_2 : Z2.cell? ⟨gp, 1, none⟩ = some (.int .i64 (placeN m k).n) := by rw [HB2.out.cell hgp]; exact g1
                have z0_2 : Z2.cell? ⟨gz, 0, none⟩ = some (.int .i64 s.fin) := by rw [HY2.out.cell lz]; exact z0
                have p2_2 : Z2.cell? ⟨a.bm, 2, none⟩ = some (.int .i64 m.ret) := by rw [HY2.out.cell lm]; exact p2
                have v1_2 : Z2.cell? ⟨b1, f1 + k, none⟩ = some (.int .i64 ((s.cells (placeN m k)).getD 0)) := by rw [HY2.out.cell hb1]; exact hc1
                have v2_2 : Z2.cell? ⟨b2, f2 + k, none⟩ = some (.bool (s.cells (placeN m k)).isSome) := by rw [HY2.out.cell hb2]; exact hc2
                have v3_2 : Z2.cell? ⟨b3, f3 + k, none⟩ = some (.int .i64 ((r.cells (placeN m k)).getD 0)) := by rw [HY2.out.cell hb3]; exact hc3
                have v4_2 : Z2.cell? ⟨b4, f4 + k, none⟩ = some (.bool (r.cells (placeN m k)).isSome) := by rw [HY2.out.cell hb4]; exact hc4
                have l0 : gp < Z2.heap.size := by omega
                have l1 : gz < Z2.heap.size := by omega
                have l2 : a.bm < Z2.heap.size := by omega
                have l3 : b1 < Z2.heap.size := by omega
                have l4 : b2 < Z2.heap.size := by omega
                have l5 : b3 < Z2.heap.size := by omega
                have l6 : b4 < Z2.heap.size := by omega
                have e1 : (s.fin == 0) = true := by simpa using h0
                rw [HLS.out h0] at v2_2
                refine wp_region_ext (by kernel_rfl) (by kernel_rfl) ?_
                repeat (any_goals (first | go_big_quiet_step (((go_at_call 27; with_reducible exact quiet_retx (HIN.out _ (HB2.out.ext hs2 _))))) | quiet_step (((go_at_call 27; with_reducible exact quiet_retx (HIN.out _ (HB2.out.ext hs2 _)))))))
                refine wpQuiet_nil ?_
                rintro _ ⟨uq, rfl⟩
                go_wp2_with fail
                go_roundw
                case rel => exact ⟨k + 1, by omega, by go_num, Below.to_ext (HY2.out.ext (by omega) _)⟩
                case measure => simp [intOf]; omega
            case neg =>
              cases iw
              case false =>
                go_upto_region 40 with (go_at_call 26; refine (HSV.out _ (by repeat (first | exact Below.refl _ _ | assumption | refine Below.alloc ?_ (by simp [size_ext]; try omega) _ | refine Below.ext ?_ (by simp [size_ext]; try omega) _ | refine Below.drew ?_ | refine Below.setCell ?_ (by simp [size_ext]; try omega) _))).mono ?_; rintro e _ ⟨rfl, uz, rfl⟩; dsimp only)
                refine name_world fun Z2 hZ2 => ?_
                have HB2 := hide (show Below Z.heap.size Z Z2 by rw [hZ2]; exact (by repeat (first | exact Below.refl _ _ | assumption | exact Hd.out (by assumption) | refine Below.alloc ?_ (by first | omega | (simp [size_ext]; try omega)) _ | refine Below.ext ?_ (by first | omega | (simp [size_ext]; try omega)) _ | refine Below.drew ?_ | refine Below.setCell ?_ (by first | omega | (simp [size_ext]; try omega)) _)))
                have HY2 := hide (HYZ.out.trans (HB2.out.mono hYZ))
                have hs2 := HB2.out.size
                clear hZ2
                have g0_2 : Z2.cell? ⟨gp, 0, none⟩ = some (.bool false) := by rw [HB2.out.cell hgp]; exact g0
                have g1_2 : Z2.cell? ⟨gp, 1, none⟩ = some (.int .i64 (placeN m k).n) := by rw [HB2.out.cell hgp]; exact g1
                have z0_2 : Z2.cell? ⟨gz, 0, none⟩ = some (.int .i64 s.fin) := by rw [HY2.out.cell lz]; exact z0
                have p2_2 : Z2.cell? ⟨a.bm, 2, none⟩ = some (.int .i64 m.ret) := by rw [HY2.out.cell lm]; exact p2
                have v1_2 : Z2.cell? ⟨b1, f1 + k, none⟩ = some (.int .i64 ((s.cells (placeN m k)).getD 0)) := by rw [HY2.out.cell hb1]; exact hc1
                have v2_2 : Z2.cell? ⟨b2, f2 + k, none⟩ = some (.bool (s.cells (placeN m k)).isSome) := by rw [HY2.out.cell hb2]; exact hc2
                have v3_2 : Z2.cell? ⟨b3, f3 + k, none⟩ = some (.int .i64 ((r.cells (placeN m k)).getD 0)) := by rw [HY2.out.cell hb3]; exact hc3
                have v4_2 : Z2.cell? ⟨b4, f4 + k, none⟩ = some (.bool (r.cells (placeN m k)).isSome) := by rw [HY2.out.cell hb4]; exact hc4
                have l0 : gp < Z2.heap.size := by omega
                have l1 : gz < Z2.heap.size := by omega
                have l2 : a.bm < Z2.heap.size := by omega
                have l3 : b1 < Z2.heap.size := by omega
                have l4 : b2 < Z2.heap.size := by omega
                have l5 : b3 < Z2.heap.size := by omega
                have l6 : b4 < Z2.heap.size := by omega
                have e1 : (s.fin == 0) = false := by simpa using h0
                refine wp_region_ext (by kernel_rfl) (by kernel_rfl) ?_
                repeat (any_goals (first | go_big_quiet_step (((go_at_call 27; with_reducible exact quiet_retx (HIN.out _ (HB2.out.ext hs2 _))))) | quiet_step (((go_at_call 27; with_reducible exact quiet_retx (HIN.out _ (HB2.out.ext hs2 _)))))))
                refine wpQuiet_nil ?_
                rintro _ ⟨uq, rfl⟩
                go_wp2_with fail
                go_roundw
                case rel => exact ⟨k + 1, by omega, by go_num, Below.to_ext (HY2.out.ext (by omega) _)⟩
                case measure => simp [intOf]; omega
              case true =>
                go_upto_region 40 with (go_at_call 26; refine (HSV.out _ (by repeat (first | exact Below.refl _ _ | assumption | refine Below.alloc ?_ (by simp [size_ext]; try omega) _ | refine Below.ext ?_ (by simp [size_ext]; try omega) _ | refine Below.drew ?_ | refine Below.setCell ?_ (by simp [size_ext]; try omega) _))).mono ?_; rintro e _ ⟨rfl, uz, rfl⟩; dsimp only)
                refine name_world fun Z2 hZ2 => ?_
                have HB2 := hide (show Below Z.heap.size Z Z2 by rw [hZ2]; exact (by repeat (first | exact Below.refl _ _ | assumption | exact Hd.out (by assumption) | refine Below.alloc ?_ (by first | omega | (simp [size_ext]; try omega)) _ | refine Below.ext ?_ (by first | omega | (simp [size_ext]; try omega)) _ | refine Below.drew ?_ | refine Below.setCell ?_ (by first | omega | (simp [size_ext]; try omega)) _)))
                have HY2 := hide (HYZ.out.trans (HB2.out.mono hYZ))
                have hs2 := HB2.out.size
                clear hZ2
                have g0_2 : Z2.cell? ⟨gp, 0, none⟩ = some (.bool false) := by rw [HB2.out.cell hgp]; exact g0
                have g1_2 : Z2.cell? ⟨gp, 1, none⟩ = some (.int .i64 (placeN m k).n) := by rw [HB2.out.cell hgp]; exact g1
                have z0_2 : Z2.cell? ⟨gz, 0, none⟩ = some (.int .i64 s.fin) := by rw [HY2.out.cell lz]; exact z0
                have p2_2 : Z2.cell? ⟨a.bm, 2, none⟩ = some (.int .i64 m.ret) := by rw [HY2.out.cell lm]; exact p2
                have v1_2 : Z2.cell? ⟨b1, f1 + k, none⟩ = some (.int .i64 ((s.cells (placeN m k)).getD 0)) := by rw [HY2.out.cell hb1]; exact hc1
                have v2_2 : Z2.cell? ⟨b2, f2 + k, none⟩ = some (.bool (s.cells (placeN m k)).isSome) := by rw [HY2.out.cell hb2]; exact hc2
                have v3_2 : Z2.cell? ⟨b3, f3 + k, none⟩ = some (.int .i64 ((r.cells (placeN m k)).getD 0)) := by rw [HY2.out.cell hb3]; exact hc3
                have v4_2 : Z2.cell? ⟨b4, f4 + k, none⟩ = some (.bool (r.cells (placeN m k)).isSome) := by rw [HY2.out.cell hb4]; exact hc4
                have l0 : gp < Z2.heap.size := by omega
                have l1 : gz < Z2.heap.size := by omega
                have l2 : a.bm < Z2.heap.size := by omega
                have l3 : b1 < Z2.heap.size := by omega
                have l4 : b2 < Z2.heap.size := by omega
                have l5 : b3 < Z2.heap.size := by omega
                have l6 : b4 < Z2.heap.size := by omega
                have e1 : (s.fin == 0) = false := by simpa using h0
                refine wp_region_ext (by kernel_rfl) (by kernel_rfl) ?_
                repeat (any_goals (first | go_big_quiet_step (((go_at_call 27; with_reducible exact quiet_retx (HIN.out _ (HB2.out.ext hs2 _))))) | quiet_step (((go_at_call 27; with_reducible exact quiet_retx (HIN.out _ (HB2.out.ext hs2 _)))))))
                refine wpQuiet_nil ?_
                rintro _ ⟨uq, rfl⟩
                go_wp2_with fail
                go_roundw
                case rel => exact ⟨k + 1, by omega, by go_num, Below.to_ext (HY2.out.ext (by omega) _)⟩
                case measure => simp [intOf]; omega
      · have o1 : (opAt r == 13) = false := by simpa using ho
        have HFRM := hide (fun (h : iw = false) => HSS.out.frame (placeN m k) (HIW.out h) (.inl ho))
        clear ho
        rw [HBS.out] at g0
        cases iw
        case false =>
          have HEQ := hide (HFRM.out rfl)
          go_upto_region 40 with (go_at_call 26; refine (HSV.out _ (by repeat (first | exact Below.refl _ _ | assumption | refine Below.alloc ?_ (by simp [size_ext]; try omega) _ | refine Below.ext ?_ (by simp [size_ext]; try omega) _ | refine Below.drew ?_ | refine Below.setCell ?_ (by simp [size_ext]; try omega) _))).mono ?_; rintro e _ ⟨rfl, uz, rfl⟩; dsimp only)
          refine name_world fun Z2 hZ2 => ?_
          have HB2 := hide (show Below Z.heap.size Z Z2 by rw [hZ2]; exact (by repeat (first | exact Below.refl _ _ | assumption | exact Hd.out (by assumption) | refine Below.alloc ?_ (by first | omega | (simp [size_ext]; try omega)) _ | refine Below.ext ?_ (by first | omega | (simp [size_ext]; try omega)) _ | refine Below.drew ?_ | refine Below.setCell ?_ (by first | omega | (simp [size_ext]; try omega)) _)))
          have HY2 := hide (HYZ.out.trans (HB2.out.mono hYZ))
          have hs2 := HB2.out.size
          clear hZ2
          have g0_2 : Z2.cell? ⟨gp, 0, none⟩ = some (.bool (placeN m k).slot) := by rw [HB2.out.cell hgp]; exact g0
          have g1_2 : Z2.cell? ⟨gp, 1, none⟩ = some (.int .i64 (placeN m k).n) := by rw [HB2.out.cell hgp]; exact g1
          have z0_2 : Z2.cell? ⟨gz, 0, none⟩ = some (.int .i64 s.fin) := by rw [HY2.out.cell lz]; exact z0
          have p2_2 : Z2.cell? ⟨a.bm, 2, none⟩ = some (.int .i64 m.ret) := by rw [HY2.out.cell lm]; exact p2
          have v1_2 : Z2.cell? ⟨b1, f1 + k, none⟩ = some (.int .i64 ((s.cells (placeN m k)).getD 0)) := by rw [HY2.out.cell hb1]; exact hc1
          have v2_2 : Z2.cell? ⟨b2, f2 + k, none⟩ = some (.bool (s.cells (placeN m k)).isSome) := by rw [HY2.out.cell hb2]; exact hc2
          have v3_2 : Z2.cell? ⟨b3, f3 + k, none⟩ = some (.int .i64 ((r.cells (placeN m k)).getD 0)) := by rw [HY2.out.cell hb3]; exact hc3
          have v4_2 : Z2.cell? ⟨b4, f4 + k, none⟩ = some (.bool (r.cells (placeN m k)).isSome) := by rw [HY2.out.cell hb4]; exact hc4
          have l0 : gp < Z2.heap.size := by omega
          have l1 : gz < Z2.heap.size := by omega
          have l2 : a.bm < Z2.heap.size := by omega
          have l3 : b1 < Z2.heap.size := by omega
          have l4 : b2 < Z2.heap.size := by omega
          have l5 : b3 < Z2.heap.size := by omega
          have l6 : b4 < Z2.heap.size := by omega
          rw [HEQ.out] at v1_2 v2_2
          have n1 : ((r.cells (placeN m k)).getD 0 != (r.cells (placeN m k)).getD 0) = false := by simp
          have n2 : ((r.cells (placeN m k)).isSome != (r.cells (placeN m k)).isSome) = false := by simp
          refine wp_region_ext (by kernel_rfl) (by kernel_rfl) ?_
          repeat (any_goals (first | go_big_quiet_step (((go_at_call 27; with_reducible exact quiet_retx (HIN.out _ (HB2.out.ext hs2 _))))) | quiet_step (((go_at_call 27; with_reducible exact quiet_retx (HIN.out _ (HB2.out.ext hs2 _)))))))
          refine wpQuiet_nil ?_
          rintro _ ⟨uq, rfl⟩
          go_wp2_with fail
          go_roundw
          case rel => exact ⟨k + 1, by omega, by go_num, Below.to_ext (HY2.out.ext (by omega) _)⟩
          case measure => simp [intOf]; omega
        case true =>
          go_upto_region 40 with (go_at_call 26; refine (HSV.out _ (by repeat (first | exact Below.refl _ _ | assumption | refine Below.alloc ?_ (by simp [size_ext]; try omega) _ | refine Below.ext ?_ (by simp [size_ext]; try omega) _ | refine Below.drew ?_ | refine Below.setCell ?_ (by simp [size_ext]; try omega) _))).mono ?_; rintro e _ ⟨rfl, uz, rfl⟩; dsimp only)
          refine name_world fun Z2 hZ2 => ?_
          have HB2 := hide (show Below Z.heap.size Z Z2 by rw [hZ2]; exact (by repeat (first | exact Below.refl _ _ | assumption | exact Hd.out (by assumption) | refine Below.alloc ?_ (by first | omega | (simp [size_ext]; try omega)) _ | refine Below.ext ?_ (by first | omega | (simp [size_ext]; try omega)) _ | refine Below.drew ?_ | refine Below.setCell ?_ (by first | omega | (simp [size_ext]; try omega)) _)))
          have HY2 := hide (HYZ.out.trans (HB2.out.mono hYZ))
          have hs2 := HB2.out.size
          clear hZ2
          have g0_2 : Z2.cell? ⟨gp, 0, none⟩ = some (.bool (placeN m k).slot) := by rw [HB2.out.cell hgp]; exact g0
          have g1_2 : Z2.cell? ⟨gp, 1, none⟩ = some (.int .i64 (placeN m k).n) := by rw [HB2.out.cell hgp]; exact g1
          have z0_2 : Z2.cell? ⟨gz, 0, none⟩ = some (.int .i64 s.fin) := by rw [HY2.out.cell lz]; exact z0
          have p2_2 : Z2.cell? ⟨a.bm, 2, none⟩ = some (.int .i64 m.ret) := by rw [HY2.out.cell lm]; exact p2
          have v1_2 : Z2.cell? ⟨b1, f1 + k, none⟩ = some (.int .i64 ((s.cells (placeN m k)).getD 0)) := by rw [HY2.out.cell hb1]; exact hc1
          have v2_2 : Z2.cell? ⟨b2, f2 + k, none⟩ = some (.bool (s.cells (placeN m k)).isSome) := by rw [HY2.out.cell hb2]; exact hc2
          have v3_2 : Z2.cell? ⟨b3, f3 + k, none⟩ = some (.int .i64 ((r.cells (placeN m k)).getD 0)) := by rw [HY2.out.cell hb3]; exact hc3
          have v4_2 : Z2.cell? ⟨b4, f4 + k, none⟩ = some (.bool (r.cells (placeN m k)).isSome) := by rw [HY2.out.cell hb4]; exact hc4
          have l0 : gp < Z2.heap.size := by omega
          have l1 : gz < Z2.heap.size := by omega
          have l2 : a.bm < Z2.heap.size := by omega
          have l3 : b1 < Z2.heap.size := by omega
          have l4 : b2 < Z2.heap.size := by omega
          have l5 : b3 < Z2.heap.size := by omega
          have l6 : b4 < Z2.heap.size := by omega
          refine wp_region_ext (by kernel_rfl) (by kernel_rfl) ?_
          repeat (any_goals (first | go_big_quiet_step (((go_at_call 27; with_reducible exact quiet_retx (HIN.out _ (HB2.out.ext hs2 _))))) | quiet_step (((go_at_call 27; with_reducible exact quiet_retx (HIN.out _ (HB2.out.ext hs2 _)))))))
          refine wpQuiet_nil ?_
          rintro _ ⟨uq, rfl⟩
          go_wp2_with fail
          go_roundw
          case rel => exact ⟨k + 1, by omega, by go_num, Below.to_ext (HY2.out.ext (by omega) _)⟩
          case measure => simp [intOf]; omega
    · go_wp2_with fail
      refine HK1.out _ _ ?_
      obtain ⟨u, rfl⟩ := HU.out
      exact HR.out _ (by kernel_rfl) Afr Ahr cfr chr (Y.ext u) (HBY.out.ext hsY _) ⟨(HPO.out.o.ext _).more fun b _ h => ⟨h.1, by rw [size_ext]; have := h.2; omega⟩, (HPO.out.h.ext _).more fun b _ h => ⟨h.1, by rw [size_ext]; have := h.2; omega⟩⟩ _ _ _ _ _ _ _ _ _ _ _ _ _ _ _ _ _ _ _ _ _ _ _ _ _ _ _ _ _ _ _ _ _ _ _ _ _ _ _ _ _ _ _ _ _ _ _ _ _ _ _ _ _ _ _ _ _ _ _ _ _ _ _ _ _ _ _ _ _ _ _ _ _ _ _ _ _ _ _ _ _ _ _ _ _ _ _ _ _ _ _ _ _ _ _ _ _ _ _ _ _ _ _ _ _ _ _ _ _ _ _ _ _ _ _ _ _ _ _ _ _ _ _ _ _ _ _ _ _ _ _ _ _ _ _ _ _ _ _ _ _ _ _ _ _ _ _ _ _ _ _ _ _ _ _ _ _ _ _ _ _ _ _ _ _ _ _ _ _ _ _ _ _ _ _ _ _ _ _ _ _ _ _ _ _ _ _ _ _ _ _ _ _ _ _ _ _ _ _ _ _ _ _ _ _ _ _ _ _ _ _ _ _ _ _ _ _ _ _ _ _ _ _ _ _ _ _ _ _ _ _ _ _ _ _ _ _ _ _ _ _ _ _ _ _ _ _ _
end
end Go.Proofs.Ytkjipgelbjaggaa
