/- Walk: MrunSafe's round: its end. -/
import Derived.Test.YtkjipgelbjaggaaS00
import Derived.Test.YtkjipgelbjaggaaM44
import Derived.Test.YtkjipgelbjaggaaM48
import Derived.Deep.Cut
import Derived.Deep.DeepCutAuto
import Derived.BigGuardPart
import Derived.Test.YtkjipgelbjaggaaM15
set_option linter.unusedSimpArgs false
set_option linter.unusedVariables false
namespace Go.Proofs.Ytkjipgelbjaggaa
open Go.RowKit Go.Maps
section
variable (a : SafeA) (w V : World) (m : Machine) (t : Target) (la : List Int) (lh : List Bool) (K M : Nat) (q : RunM) (r s : RunS) (n fuel : Int) (S1 S2 S3 : Nat → Prop) (e0_ e1_ e2_ e6_ e7_ e10_ e33_ e34_ e35_ e36_ e37_ e38_ e39_ e40_ e41_ e42_ e43_ e44_ e45_ e46_ e47_ e48_ e49_ e50_ e51_ e52_ e53_ e54_ e55_ e56_ e57_ e58_ e59_ e60_ e61_ e62_ e63_ e64_ e65_ e66_ e67_ e68_ e69_ e70_ e71_ e72_ : Value)
  (HS : Hd (SafeW a w m t la lh V K q s)) (H1 : Hd (Sl w S1 a.A1 a.n1 a.c1 m.args)) (H2 : Hd (Sl w S2 a.A2 a.n2 a.c2 m.saved)) (H3 : Hd (Sl w S3 a.A a.n a.c t.blocks)) (HM : Hd (s.m = m)) (HT : Hd (s.t = t)) (HI : Hd (RunInv s M)) (HSS : Hd (StepSafe r s))
variable (gx : Nat) (Al Aw Ai : Option Addr) (nl cl nw cw ni ci : Nat)variable (gw : Nat) (Aol Ahl Awc Awm : Option Addr) (col chl nwc cwc nwm cwm : Nat)
variable (gz : Nat) (Azc Azm : Option Addr) (nzc czc nzm czm : Nat)
variable (Afr Ahr : Option Addr) (cfr chr : Nat)
include HS HSS H2
set_option maxHeartbeats 100000000 in
set_option maxRecDepth 100000 in
theorem safeG (Sw Sz Sf : Nat → Prop) (HP : Hd (PartR r Sw V gw Awc Awm nwc cwc nwm cwm)) (HZ : Hd (PartR s Sz V gz Azc Azm nzc czc nzm czm)) (HO : Hd (PartO s m a.N Sf V Afr Ahr cfr chr))
    (HH : Hd (s.fin = 1 → ∀ x ∈ m.saved, ∃ k : Nat, x = (k : Int) ∧ k < a.N ∧ lh[k]? = some true ∧ (hasR s m a.N)[k]? = some true ∧ la[k]? = (valsR s m a.N)[k]?)) (Q : Exit → Act → World → Prop)
    (HRET : Hd (∀ (U : World), Below w.heap.size w U → ∀ (s21_ s22_ s23_ s30_ s31_ s32_ s73_ s74_ s75_ s76_ s77_ s78_ s79_ s80_ s81_ s82_ s83_ s84_ s85_ s86_ s87_ s88_ s89_ s90_ s91_ s92_ s93_ s94_ s95_ s96_ s97_ s98_ s99_ s100_ s101_ s102_ s103_ s104_ s105_ s106_ s107_ s108_ s109_ s110_ s111_ s112_ s113_ s114_ s115_ s116_ s117_ s118_ s119_ s120_ s121_ s122_ s123_ s124_ s125_ s126_ s127_ s128_ s129_ s130_ s131_ s132_ s133_ s134_ s135_ s136_ s137_ s138_ s139_ s140_ s141_ s142_ s143_ s144_ s145_ s146_ s147_ s148_ s149_ s150_ s151_ s152_ s153_ s154_ s155_ s156_ s157_ s158_ s159_ s160_ s161_ s162_ s163_ s164_ s165_ s166_ s167_ s168_ s169_ s170_ s171_ s172_ s173_ s174_ s175_ s176_ s177_ s178_ s179_ s180_ s181_ s182_ s183_ s184_ s185_ s186_ s187_ s188_ s189_ s190_ s191_ s192_ s193_ s194_ s195_ s196_ s197_ s198_ s199_ s200_ s201_ s202_ s203_ s204_ s205_ s206_ s207_ s208_ s209_ s210_ s211_ s212_ s213_ s214_ s215_ s216_ s217_ s218_ s219_ s220_ s221_ s222_ s223_ s224_ s225_ s226_ s227_ s228_ s229_ s230_ s231_ s232_ s233_ s234_ s235_ s236_ s237_ s238_ s239_ s240_ s241_ s242_ s243_ s244_ s245_ s246_ s247_ s248_ s249_ s250_ s251_ s252_ s253_ s254_ s255_ s256_ s257_ s258_ s259_ s260_ s261_ s262_ s263_ s264_ s265_ s266_ s267_ s268_ s269_ s270_ s271_ s272_ s273_ s274_ s275_ s276_ s277_ s278_ s279_ s280_ s281_ s282_ s283_ s284_ s285_ s286_ s287_ s288_ s289_ s290_ s291_ s292_ s293_ s294_ s295_ s296_ s297_ s298_ s299_ s300_ s301_ s302_ s303_ s304_ s305_ s306_ s307_ s308_ s309_ s310_ s311_ s312_ s313_ : Value), Q .ret ⟨#[e0_, e1_, e2_, .int .i64 fuel, .pointer (some ⟨a.bm, 0, none⟩), .pointer (some ⟨a.bt, 0, none⟩), e6_, e7_, .bool true, .pointer (some ⟨a.X, 0, none⟩), e10_, .slice a.Aat a.N a.cat, .slice a.Ahd a.N a.chd, .int .i64 n, .int .i64 r.block, .int .i64 r.ins, .pointer (some ⟨gx, 0, none⟩), .slice Al nl cl, .int .i64 (opAt r), .slice Aw nw cw, .bool (wholeC r.cells (readsAt r)), s21_, s22_, s23_, .pointer (some ⟨gw, 0, none⟩), .slice Aol a.N col, .slice Ahl a.N chl, .pointer (some ⟨gz, 0, none⟩), .slice Afr a.N cfr, .slice Ahr a.N chr, s30_, s31_, s32_, e33_, e34_, e35_, e36_, e37_, e38_, e39_, e40_, e41_, e42_, e43_, e44_, e45_, e46_, e47_, e48_, e49_, e50_, e51_, e52_, e53_, e54_, e55_, e56_, e57_, e58_, e59_, e60_, e61_, e62_, e63_, e64_, e65_, e66_, e67_, e68_, e69_, e70_, e71_, e72_, s73_, s74_, s75_, s76_, s77_, s78_, s79_, s80_, s81_, s82_, s83_, s84_, s85_, s86_, s87_, s88_, s89_, s90_, s91_, s92_, s93_, s94_, s95_, s96_, s97_, s98_, s99_, s100_, s101_, s102_, s103_, s104_, s105_, s106_, s107_, s108_, s109_, s110_, s111_, s112_, s113_, s114_, s115_, s116_, s117_, s118_, s119_, s120_, s121_, s122_, s123_, s124_, s125_, s126_, s127_, s128_, s129_, s130_, s131_, s132_, s133_, s134_, s135_, s136_, s137_, s138_, s139_, s140_, s141_, s142_, s143_, s144_, s145_, s146_, s147_, s148_, s149_, s150_, s151_, s152_, s153_, s154_, s155_, s156_, s157_, s158_, s159_, s160_, s161_, s162_, s163_, s164_, s165_, s166_, s167_, s168_, s169_, s170_, s171_, s172_, s173_, s174_, s175_, s176_, s177_, s178_, s179_, s180_, s181_, s182_, s183_, s184_, s185_, s186_, s187_, s188_, s189_, s190_, s191_, s192_, s193_, s194_, s195_, s196_, s197_, s198_, s199_, s200_, s201_, s202_, s203_, s204_, s205_, s206_, s207_, s208_, s209_, s210_, s211_, s212_, s213_, s214_, s215_, s216_, s217_, s218_, s219_, s220_, s221_, s222_, s223_, s224_, s225_, s226_, s227_, s228_, s229_, s230_, s231_, s232_, s233_, s234_, s235_, s236_, s237_, s238_, s239_, s240_, s241_, s242_, s243_, s244_, s245_, s246_, s247_, s248_, s249_, s250_, s251_, s252_, s253_, s254_, s255_, s256_, s257_, s258_, s259_, s260_, s261_, s262_, s263_, s264_, s265_, s266_, s267_, s268_, s269_, s270_, s271_, s272_, s273_, s274_, s275_, s276_, s277_, s278_, s279_, s280_, s281_, s282_, s283_, s284_, s285_, s286_, s287_, s288_, s289_, s290_, s291_, s292_, s293_, s294_, s295_, s296_, s297_, s298_, s299_, s300_, s301_, s302_, s303_, s304_, s305_, s306_, s307_, s308_, s309_, s310_, s311_, s312_, s313_], []⟩ U))
    (HN : Hd (s.fin ≠ 1 → ∀ (U : World), Below V.heap.size V U → ∀ (s8_ s21_ s22_ s23_ s30_ s31_ s32_ s73_ s74_ s75_ s76_ s77_ s78_ s79_ s80_ s81_ s82_ s83_ s84_ s85_ s86_ s87_ s88_ s89_ s90_ s91_ s92_ s93_ s94_ s95_ s96_ s97_ s98_ s99_ s100_ s101_ s102_ s103_ s104_ s105_ s106_ s107_ s108_ s109_ s110_ s111_ s112_ s113_ s114_ s115_ s116_ s117_ s118_ s119_ s120_ s121_ s122_ s123_ s124_ s125_ s126_ s127_ s128_ s129_ s130_ s131_ s132_ s133_ s134_ s135_ s136_ s137_ s138_ s139_ s140_ s141_ s142_ s143_ s144_ s145_ s146_ s147_ s148_ s149_ s150_ s151_ s152_ s153_ s154_ s155_ s156_ s157_ s158_ s159_ s160_ s161_ s162_ s163_ s164_ s165_ s166_ s167_ s168_ s169_ s170_ s171_ s172_ s173_ s174_ s175_ s176_ s177_ s178_ s179_ s180_ s181_ s182_ s183_ s184_ s185_ s186_ s187_ s188_ s189_ s190_ s191_ s192_ s193_ s194_ s195_ s196_ s197_ s198_ s199_ s200_ s201_ s202_ s203_ s204_ s205_ s206_ s207_ s208_ s209_ s210_ s211_ s212_ s213_ s214_ s215_ s216_ s217_ s218_ s219_ s220_ s221_ s222_ s223_ s224_ s225_ s226_ s227_ s228_ s229_ s230_ s231_ s232_ s233_ s234_ s235_ s236_ s237_ s238_ s239_ s240_ s241_ s242_ s243_ s244_ s245_ s246_ s247_ s248_ s249_ s250_ s251_ s252_ s253_ s254_ s255_ s256_ s257_ s258_ s259_ s260_ s261_ s262_ s263_ s264_ s265_ s266_ s267_ s268_ s269_ s270_ s271_ s272_ s273_ s274_ s275_ s276_ s277_ s278_ s279_ s280_ s281_ s282_ s283_ s284_ s285_ s286_ s287_ s288_ s289_ s290_ s291_ s292_ s293_ s294_ s295_ s296_ s297_ s298_ s299_ s300_ s301_ s302_ s303_ s304_ s305_ s306_ s307_ s308_ s309_ s310_ s311_ s312_ s313_ : Value), Q .normal ⟨#[e0_, e1_, e2_, .int .i64 fuel, .pointer (some ⟨a.bm, 0, none⟩), .pointer (some ⟨a.bt, 0, none⟩), e6_, e7_, s8_, .pointer (some ⟨a.X, 0, none⟩), e10_, .slice a.Aat a.N a.cat, .slice a.Ahd a.N a.chd, .int .i64 n, .int .i64 r.block, .int .i64 r.ins, .pointer (some ⟨gx, 0, none⟩), .slice Al nl cl, .int .i64 (opAt r), .slice Aw nw cw, .bool (wholeC r.cells (readsAt r)), s21_, s22_, s23_, .pointer (some ⟨gw, 0, none⟩), .slice Aol a.N col, .slice Ahl a.N chl, .pointer (some ⟨gz, 0, none⟩), .slice Afr a.N cfr, .slice Ahr a.N chr, s30_, s31_, s32_, e33_, e34_, e35_, e36_, e37_, e38_, e39_, e40_, e41_, e42_, e43_, e44_, e45_, e46_, e47_, e48_, e49_, e50_, e51_, e52_, e53_, e54_, e55_, e56_, e57_, e58_, e59_, e60_, e61_, e62_, e63_, e64_, e65_, e66_, e67_, e68_, e69_, e70_, e71_, e72_, s73_, s74_, s75_, s76_, s77_, s78_, s79_, s80_, s81_, s82_, s83_, s84_, s85_, s86_, s87_, s88_, s89_, s90_, s91_, s92_, s93_, s94_, s95_, s96_, s97_, s98_, s99_, s100_, s101_, s102_, s103_, s104_, s105_, s106_, s107_, s108_, s109_, s110_, s111_, s112_, s113_, s114_, s115_, s116_, s117_, s118_, s119_, s120_, s121_, s122_, s123_, s124_, s125_, s126_, s127_, s128_, s129_, s130_, s131_, s132_, s133_, s134_, s135_, s136_, s137_, s138_, s139_, s140_, s141_, s142_, s143_, s144_, s145_, s146_, s147_, s148_, s149_, s150_, s151_, s152_, s153_, s154_, s155_, s156_, s157_, s158_, s159_, s160_, s161_, s162_, s163_, s164_, s165_, s166_, s167_, s168_, s169_, s170_, s171_, s172_, s173_, s174_, s175_, s176_, s177_, s178_, s179_, s180_, s181_, s182_, s183_, s184_, s185_, s186_, s187_, s188_, s189_, s190_, s191_, s192_, s193_, s194_, s195_, s196_, s197_, s198_, s199_, s200_, s201_, s202_, s203_, s204_, s205_, s206_, s207_, s208_, s209_, s210_, s211_, s212_, s213_, s214_, s215_, s216_, s217_, s218_, s219_, s220_, s221_, s222_, s223_, s224_, s225_, s226_, s227_, s228_, s229_, s230_, s231_, s232_, s233_, s234_, s235_, s236_, s237_, s238_, s239_, s240_, s241_, s242_, s243_, s244_, s245_, s246_, s247_, s248_, s249_, s250_, s251_, s252_, s253_, s254_, s255_, s256_, s257_, s258_, s259_, s260_, s261_, s262_, s263_, s264_, s265_, s266_, s267_, s268_, s269_, s270_, s271_, s272_, s273_, s274_, s275_, s276_, s277_, s278_, s279_, s280_, s281_, s282_, s283_, s284_, s285_, s286_, s287_, s288_, s289_, s290_, s291_, s292_, s293_, s294_, s295_, s296_, s297_, s298_, s299_, s300_, s301_, s302_, s303_, s304_, s305_, s306_, s307_, s308_, s309_, s310_, s311_, s312_, s313_], []⟩ U))
    (c : Code) (hc : C42 = c) (s8_ s21_ s22_ s23_ s30_ s31_ s32_ s73_ s74_ s75_ s76_ s77_ s78_ s79_ s80_ s81_ s82_ s83_ s84_ s85_ s86_ s87_ s88_ s89_ s90_ s91_ s92_ s93_ s94_ s95_ s96_ s97_ s98_ s99_ s100_ s101_ s102_ s103_ s104_ s105_ s106_ s107_ s108_ s109_ s110_ s111_ s112_ s113_ s114_ s115_ s116_ s117_ s118_ s119_ s120_ s121_ s122_ s123_ s124_ s125_ s126_ s127_ s128_ s129_ s130_ s131_ s132_ s133_ s134_ s135_ s136_ s137_ s138_ s139_ s140_ s141_ s142_ s143_ s144_ s145_ s146_ s147_ s148_ s149_ s150_ s151_ s152_ s153_ s154_ s155_ s156_ s157_ s158_ s159_ s160_ s161_ s162_ s163_ s164_ s165_ s166_ s167_ s168_ s169_ s170_ s171_ s172_ s173_ s174_ s175_ s176_ s177_ s178_ s179_ s180_ s181_ s182_ s183_ s184_ s185_ s186_ s187_ s188_ s189_ s190_ s191_ s192_ s193_ s194_ s195_ s196_ s197_ s198_ s199_ s200_ s201_ s202_ s203_ s204_ s205_ s206_ s207_ s208_ s209_ s210_ s211_ s212_ s213_ s214_ s215_ s216_ s217_ s218_ s219_ s220_ s221_ s222_ s223_ s224_ s225_ s226_ s227_ s228_ s229_ s230_ s231_ s232_ s233_ s234_ s235_ s236_ s237_ s238_ s239_ s240_ s241_ s242_ s243_ s244_ s245_ s246_ s247_ s248_ s249_ s250_ s251_ s252_ s253_ s254_ s255_ s256_ s257_ s258_ s259_ s260_ s261_ s262_ s263_ s264_ s265_ s266_ s267_ s268_ s269_ s270_ s271_ s272_ s273_ s274_ s275_ s276_ s277_ s278_ s279_ s280_ s281_ s282_ s283_ s284_ s285_ s286_ s287_ s288_ s289_ s290_ s291_ s292_ s293_ s294_ s295_ s296_ s297_ s298_ s299_ s300_ s301_ s302_ s303_ s304_ s305_ s306_ s307_ s308_ s309_ s310_ s311_ s312_ s313_ : Value) : Code.wp Try.prog c Q ⟨#[e0_, e1_, e2_, .int .i64 fuel, .pointer (some ⟨a.bm, 0, none⟩), .pointer (some ⟨a.bt, 0, none⟩), e6_, e7_, s8_, .pointer (some ⟨a.X, 0, none⟩), e10_, .slice a.Aat a.N a.cat, .slice a.Ahd a.N a.chd, .int .i64 n, .int .i64 r.block, .int .i64 r.ins, .pointer (some ⟨gx, 0, none⟩), .slice Al nl cl, .int .i64 (opAt r), .slice Aw nw cw, .bool (wholeC r.cells (readsAt r)), s21_, s22_, s23_, .pointer (some ⟨gw, 0, none⟩), .slice Aol a.N col, .slice Ahl a.N chl, .pointer (some ⟨gz, 0, none⟩), .slice Afr a.N cfr, .slice Ahr a.N chr, s30_, s31_, s32_, e33_, e34_, e35_, e36_, e37_, e38_, e39_, e40_, e41_, e42_, e43_, e44_, e45_, e46_, e47_, e48_, e49_, e50_, e51_, e52_, e53_, e54_, e55_, e56_, e57_, e58_, e59_, e60_, e61_, e62_, e63_, e64_, e65_, e66_, e67_, e68_, e69_, e70_, e71_, e72_, s73_, s74_, s75_, s76_, s77_, s78_, s79_, s80_, s81_, s82_, s83_, s84_, s85_, s86_, s87_, s88_, s89_, s90_, s91_, s92_, s93_, s94_, s95_, s96_, s97_, s98_, s99_, s100_, s101_, s102_, s103_, s104_, s105_, s106_, s107_, s108_, s109_, s110_, s111_, s112_, s113_, s114_, s115_, s116_, s117_, s118_, s119_, s120_, s121_, s122_, s123_, s124_, s125_, s126_, s127_, s128_, s129_, s130_, s131_, s132_, s133_, s134_, s135_, s136_, s137_, s138_, s139_, s140_, s141_, s142_, s143_, s144_, s145_, s146_, s147_, s148_, s149_, s150_, s151_, s152_, s153_, s154_, s155_, s156_, s157_, s158_, s159_, s160_, s161_, s162_, s163_, s164_, s165_, s166_, s167_, s168_, s169_, s170_, s171_, s172_, s173_, s174_, s175_, s176_, s177_, s178_, s179_, s180_, s181_, s182_, s183_, s184_, s185_, s186_, s187_, s188_, s189_, s190_, s191_, s192_, s193_, s194_, s195_, s196_, s197_, s198_, s199_, s200_, s201_, s202_, s203_, s204_, s205_, s206_, s207_, s208_, s209_, s210_, s211_, s212_, s213_, s214_, s215_, s216_, s217_, s218_, s219_, s220_, s221_, s222_, s223_, s224_, s225_, s226_, s227_, s228_, s229_, s230_, s231_, s232_, s233_, s234_, s235_, s236_, s237_, s238_, s239_, s240_, s241_, s242_, s243_, s244_, s245_, s246_, s247_, s248_, s249_, s250_, s251_, s252_, s253_, s254_, s255_, s256_, s257_, s258_, s259_, s260_, s261_, s262_, s263_, s264_, s265_, s266_, s267_, s268_, s269_, s270_, s271_, s272_, s273_, s274_, s275_, s276_, s277_, s278_, s279_, s280_, s281_, s282_, s283_, s284_, s285_, s286_, s287_, s288_, s289_, s290_, s291_, s292_, s293_, s294_, s295_, s296_, s297_, s298_, s299_, s300_, s301_, s302_, s303_, s304_, s305_, s306_, s307_, s308_, s309_, s310_, s311_, s312_, s313_], []⟩ V := by
  subst hc
  conv => arg 2; whnf
  dsimp only
  have lm := HS.out.lmV
  have p0 := HS.out.p0; have p1 := HS.out.p1; have p2 := HS.out.p2; have p3 := HS.out.p3
  have w2 := HP.out.w2; have w3 := HP.out.w3; have lw := HP.out.hg.2
  have z0 := HZ.out.w0; have z2 := HZ.out.w2; have z3 := HZ.out.w3; have lz := HZ.out.hg.2
  have hnc : (opAt r ≠ 13) → nwc = nzc := fun h => by rw [HP.out.nc, HZ.out.nc, HSS.out.calls h]
  have hnm : (opAt r ≠ 12) → nwm = nzm := fun h => by rw [← HP.out.mem.len, ← HZ.out.mem.len, HSS.out.mem h]
  have HNC := hide hnc; have HNM := hide hnm
  clear hnc hnm
  have HSI := hide (fun (h : opAt r ≠ 12) (W : World) (hW : Below V.heap.size V W) => sameInts_any W (fun b => Sw b) (fun b => Sz b) Awm Azm nzm cwm czm r.mem (HNM.out h ▸ (HP.out.mem.belowAll hW)) (HSS.out.mem h ▸ (HZ.out.mem.belowAll hW)))
  have HINS := hide (fun (W : World) => inserted_any (opAt r) W)
  by_cases ho : opAt r = 12
  case pos =>
    have o1 : (opAt r != 12) = false := by simp [ho]
    have o2 : (opAt r != 13) = true := by simp [ho]
    have o3 : 12 ≤ opAt r := by omega
    have o4 : opAt r ≤ 12 := by omega
    rw [show insertedB (opAt r) = false by rw [ho]; rfl] at HINS
    obtain rfl := HNC.out (by omega)
    clear ho HSI
    go_upto_region 44 with (first | (go_at_call 14; refine (HSI.out _ (by repeat (first | exact Below.refl _ _ | assumption | refine Below.alloc ?_ (by simp [size_ext]; try omega) _ | refine Below.ext ?_ (by simp [size_ext]; try omega) _ | refine Below.drew ?_ | refine Below.setCell ?_ (by simp [size_ext]; try omega) _))).mono ?_; rintro e _ ⟨rfl, ui, rfl⟩; dsimp only) | (go_at_call 28; refine (HINS.out _).mono ?_; rintro e _ ⟨rfl, rfl⟩; dsimp only))
    refine name_world fun Y hY => ?_
    have HBY := hide (show Below V.heap.size V Y by rw [hY]; exact (by repeat (first | exact Below.refl _ _ | assumption | exact Hd.out (by assumption) | refine Below.alloc ?_ (by first | omega | (simp [size_ext]; try omega)) _ | refine Below.ext ?_ (by first | omega | (simp [size_ext]; try omega)) _ | refine Below.drew ?_ | refine Below.setCell ?_ (by first | omega | (simp [size_ext]; try omega)) _)))
    have hsY := HBY.out.size
    clear hY
    have z0Y : Y.cell? ⟨gz, 0, none⟩ = some (.int .i64 s.fin) := by rw [HBY.out.cell lz]; exact z0
    have p0Y : Y.cell? ⟨a.bm, 0, none⟩ = some (.int .i64 m.regs) := by rw [HBY.out.cell lm]; exact p0
    have p1Y : Y.cell? ⟨a.bm, 1, none⟩ = some (.slice a.A1 a.n1 a.c1) := by rw [HBY.out.cell lm]; exact p1
    have p2Y : Y.cell? ⟨a.bm, 2, none⟩ = some (.int .i64 m.ret) := by rw [HBY.out.cell lm]; exact p2
    have p3Y : Y.cell? ⟨a.bm, 3, none⟩ = some (.slice a.A2 a.n2 a.c2) := by rw [HBY.out.cell lm]; exact p3
    have lmY : a.bm < Y.heap.size := by omega
    have lzY : gz < Y.heap.size := by omega
    by_cases h1 : s.fin = 1
    case pos =>
      have e1 : (s.fin == 1) = true := by simpa using h1
      have HHM := hide (home9_any Y m S2 _ _ _ _ a.A1 a.A2 a.n1 a.c1 a.n2 a.c2 (H2.out.belowAll (HS.out.fr.trans (HBY.out.mono HS.out.fr.size))) a.N a.Aat a.Ahd Afr Ahr a.cat a.chd cfr chr la (valsR s m a.N) lh (hasR s m a.N) (HS.out.at_.belowAll HBY.out) (HS.out.had.belowAll HBY.out) (HO.out.o.belowAll HBY.out) (HO.out.h.belowAll HBY.out) (HH.out h1))
      clear h1
      go_wp2_with (go_at_call 29; refine HHM.out.mono ?_; rintro e _ ⟨rfl, uh, rfl⟩; dsimp only)
      exact HRET.out _ ((HS.out.fr.trans (HBY.out.mono HS.out.fr.size)).ext (Nat.le_trans HS.out.fr.size hsY) _) _ _ _ _ _ _ _ _ _ _ _ _ _ _ _ _ _ _ _ _ _ _ _ _ _ _ _ _ _ _ _ _ _ _ _ _ _ _ _ _ _ _ _ _ _ _ _ _ _ _ _ _ _ _ _ _ _ _ _ _ _ _ _ _ _ _ _ _ _ _ _ _ _ _ _ _ _ _ _ _ _ _ _ _ _ _ _ _ _ _ _ _ _ _ _ _ _ _ _ _ _ _ _ _ _ _ _ _ _ _ _ _ _ _ _ _ _ _ _ _ _ _ _ _ _ _ _ _ _ _ _ _ _ _ _ _ _ _ _ _ _ _ _ _ _ _ _ _ _ _ _ _ _ _ _ _ _ _ _ _ _ _ _ _ _ _ _ _ _ _ _ _ _ _ _ _ _ _ _ _ _ _ _ _ _ _ _ _ _ _ _ _ _ _ _ _ _ _ _ _ _ _ _ _ _ _ _ _ _ _ _ _ _ _ _ _ _ _ _ _ _ _ _ _ _ _ _ _ _ _ _ _ _ _ _ _ _ _ _ _ _ _ _ _ _ _ _
    case neg =>
      have e1 : (s.fin == 1) = false := by simpa using h1
      have HN1 := hide h1
      clear h1
      go_wp2_with fail
      exact HN.out HN1.out _ HBY.out _ _ _ _ _ _ _ _ _ _ _ _ _ _ _ _ _ _ _ _ _ _ _ _ _ _ _ _ _ _ _ _ _ _ _ _ _ _ _ _ _ _ _ _ _ _ _ _ _ _ _ _ _ _ _ _ _ _ _ _ _ _ _ _ _ _ _ _ _ _ _ _ _ _ _ _ _ _ _ _ _ _ _ _ _ _ _ _ _ _ _ _ _ _ _ _ _ _ _ _ _ _ _ _ _ _ _ _ _ _ _ _ _ _ _ _ _ _ _ _ _ _ _ _ _ _ _ _ _ _ _ _ _ _ _ _ _ _ _ _ _ _ _ _ _ _ _ _ _ _ _ _ _ _ _ _ _ _ _ _ _ _ _ _ _ _ _ _ _ _ _ _ _ _ _ _ _ _ _ _ _ _ _ _ _ _ _ _ _ _ _ _ _ _ _ _ _ _ _ _ _ _ _ _ _ _ _ _ _ _ _ _ _ _ _ _ _ _ _ _ _ _ _ _ _ _ _ _ _ _ _ _ _ _ _ _ _ _ _ _ _ _ _ _ _ _ _ _
  case neg =>
  have hm12 := HNM.out ho
  obtain rfl := hm12
  have HSI' := hide (HSI.out ho)
  clear HSI
  have HSI := HSI'
  clear HSI'
  have o1 : (opAt r != 12) = true := by simp [ho]
  by_cases h13 : opAt r = 13
  case pos =>
    have o2 : (opAt r != 13) = false := by simp [h13]
    have o3 : 13 ≤ opAt r := by omega
    have o4 : opAt r ≤ 13 := by omega
    rw [show insertedB (opAt r) = false by rw [h13]; rfl] at HINS
    clear ho h13
    go_upto_region 44 with (first | (go_at_call 14; refine (HSI.out _ (by repeat (first | exact Below.refl _ _ | assumption | refine Below.alloc ?_ (by simp [size_ext]; try omega) _ | refine Below.ext ?_ (by simp [size_ext]; try omega) _ | refine Below.drew ?_ | refine Below.setCell ?_ (by simp [size_ext]; try omega) _))).mono ?_; rintro e _ ⟨rfl, ui, rfl⟩; dsimp only) | (go_at_call 28; refine (HINS.out _).mono ?_; rintro e _ ⟨rfl, rfl⟩; dsimp only))
    refine name_world fun Y hY => ?_
    have HBY := hide (show Below V.heap.size V Y by rw [hY]; exact (by repeat (first | exact Below.refl _ _ | assumption | exact Hd.out (by assumption) | refine Below.alloc ?_ (by first | omega | (simp [size_ext]; try omega)) _ | refine Below.ext ?_ (by first | omega | (simp [size_ext]; try omega)) _ | refine Below.drew ?_ | refine Below.setCell ?_ (by first | omega | (simp [size_ext]; try omega)) _)))
    have hsY := HBY.out.size
    clear hY
    have z0Y : Y.cell? ⟨gz, 0, none⟩ = some (.int .i64 s.fin) := by rw [HBY.out.cell lz]; exact z0
    have p0Y : Y.cell? ⟨a.bm, 0, none⟩ = some (.int .i64 m.regs) := by rw [HBY.out.cell lm]; exact p0
    have p1Y : Y.cell? ⟨a.bm, 1, none⟩ = some (.slice a.A1 a.n1 a.c1) := by rw [HBY.out.cell lm]; exact p1
    have p2Y : Y.cell? ⟨a.bm, 2, none⟩ = some (.int .i64 m.ret) := by rw [HBY.out.cell lm]; exact p2
    have p3Y : Y.cell? ⟨a.bm, 3, none⟩ = some (.slice a.A2 a.n2 a.c2) := by rw [HBY.out.cell lm]; exact p3
    have lmY : a.bm < Y.heap.size := by omega
    have lzY : gz < Y.heap.size := by omega
    by_cases h1 : s.fin = 1
    case pos =>
      have e1 : (s.fin == 1) = true := by simpa using h1
      have HHM := hide (home9_any Y m S2 _ _ _ _ a.A1 a.A2 a.n1 a.c1 a.n2 a.c2 (H2.out.belowAll (HS.out.fr.trans (HBY.out.mono HS.out.fr.size))) a.N a.Aat a.Ahd Afr Ahr a.cat a.chd cfr chr la (valsR s m a.N) lh (hasR s m a.N) (HS.out.at_.belowAll HBY.out) (HS.out.had.belowAll HBY.out) (HO.out.o.belowAll HBY.out) (HO.out.h.belowAll HBY.out) (HH.out h1))
      clear h1
      go_wp2_with (go_at_call 29; refine HHM.out.mono ?_; rintro e _ ⟨rfl, uh, rfl⟩; dsimp only)
      exact HRET.out _ ((HS.out.fr.trans (HBY.out.mono HS.out.fr.size)).ext (Nat.le_trans HS.out.fr.size hsY) _) _ _ _ _ _ _ _ _ _ _ _ _ _ _ _ _ _ _ _ _ _ _ _ _ _ _ _ _ _ _ _ _ _ _ _ _ _ _ _ _ _ _ _ _ _ _ _ _ _ _ _ _ _ _ _ _ _ _ _ _ _ _ _ _ _ _ _ _ _ _ _ _ _ _ _ _ _ _ _ _ _ _ _ _ _ _ _ _ _ _ _ _ _ _ _ _ _ _ _ _ _ _ _ _ _ _ _ _ _ _ _ _ _ _ _ _ _ _ _ _ _ _ _ _ _ _ _ _ _ _ _ _ _ _ _ _ _ _ _ _ _ _ _ _ _ _ _ _ _ _ _ _ _ _ _ _ _ _ _ _ _ _ _ _ _ _ _ _ _ _ _ _ _ _ _ _ _ _ _ _ _ _ _ _ _ _ _ _ _ _ _ _ _ _ _ _ _ _ _ _ _ _ _ _ _ _ _ _ _ _ _ _ _ _ _ _ _ _ _ _ _ _ _ _ _ _ _ _ _ _ _ _ _ _ _ _ _ _ _ _ _ _ _ _ _ _ _
    case neg =>
      have e1 : (s.fin == 1) = false := by simpa using h1
      have HN1 := hide h1
      clear h1
      go_wp2_with fail
      exact HN.out HN1.out _ HBY.out _ _ _ _ _ _ _ _ _ _ _ _ _ _ _ _ _ _ _ _ _ _ _ _ _ _ _ _ _ _ _ _ _ _ _ _ _ _ _ _ _ _ _ _ _ _ _ _ _ _ _ _ _ _ _ _ _ _ _ _ _ _ _ _ _ _ _ _ _ _ _ _ _ _ _ _ _ _ _ _ _ _ _ _ _ _ _ _ _ _ _ _ _ _ _ _ _ _ _ _ _ _ _ _ _ _ _ _ _ _ _ _ _ _ _ _ _ _ _ _ _ _ _ _ _ _ _ _ _ _ _ _ _ _ _ _ _ _ _ _ _ _ _ _ _ _ _ _ _ _ _ _ _ _ _ _ _ _ _ _ _ _ _ _ _ _ _ _ _ _ _ _ _ _ _ _ _ _ _ _ _ _ _ _ _ _ _ _ _ _ _ _ _ _ _ _ _ _ _ _ _ _ _ _ _ _ _ _ _ _ _ _ _ _ _ _ _ _ _ _ _ _ _ _ _ _ _ _ _ _ _ _ _ _ _ _ _ _ _ _ _ _ _ _ _ _ _ _
  case neg =>
  have o2 : (opAt r != 13) = true := by simp [h13]
  obtain rfl := HNC.out h13
  cases hi : insertedB (opAt r)
  case false =>
    rw [hi] at HINS
    clear hi
    go_upto_region 44 with (first | (go_at_call 14; refine (HSI.out _ (by repeat (first | exact Below.refl _ _ | assumption | refine Below.alloc ?_ (by simp [size_ext]; try omega) _ | refine Below.ext ?_ (by simp [size_ext]; try omega) _ | refine Below.drew ?_ | refine Below.setCell ?_ (by simp [size_ext]; try omega) _))).mono ?_; rintro e _ ⟨rfl, ui, rfl⟩; dsimp only) | (go_at_call 28; refine (HINS.out _).mono ?_; rintro e _ ⟨rfl, rfl⟩; dsimp only))
    refine name_world fun Y hY => ?_
    have HBY := hide (show Below V.heap.size V Y by rw [hY]; exact (by repeat (first | exact Below.refl _ _ | assumption | exact Hd.out (by assumption) | refine Below.alloc ?_ (by first | omega | (simp [size_ext]; try omega)) _ | refine Below.ext ?_ (by first | omega | (simp [size_ext]; try omega)) _ | refine Below.drew ?_ | refine Below.setCell ?_ (by first | omega | (simp [size_ext]; try omega)) _)))
    have hsY := HBY.out.size
    clear hY
    have z0Y : Y.cell? ⟨gz, 0, none⟩ = some (.int .i64 s.fin) := by rw [HBY.out.cell lz]; exact z0
    have p0Y : Y.cell? ⟨a.bm, 0, none⟩ = some (.int .i64 m.regs) := by rw [HBY.out.cell lm]; exact p0
    have p1Y : Y.cell? ⟨a.bm, 1, none⟩ = some (.slice a.A1 a.n1 a.c1) := by rw [HBY.out.cell lm]; exact p1
    have p2Y : Y.cell? ⟨a.bm, 2, none⟩ = some (.int .i64 m.ret) := by rw [HBY.out.cell lm]; exact p2
    have p3Y : Y.cell? ⟨a.bm, 3, none⟩ = some (.slice a.A2 a.n2 a.c2) := by rw [HBY.out.cell lm]; exact p3
    have lmY : a.bm < Y.heap.size := by omega
    have lzY : gz < Y.heap.size := by omega
    by_cases h1 : s.fin = 1
    case pos =>
      have e1 : (s.fin == 1) = true := by simpa using h1
      have HHM := hide (home9_any Y m S2 _ _ _ _ a.A1 a.A2 a.n1 a.c1 a.n2 a.c2 (H2.out.belowAll (HS.out.fr.trans (HBY.out.mono HS.out.fr.size))) a.N a.Aat a.Ahd Afr Ahr a.cat a.chd cfr chr la (valsR s m a.N) lh (hasR s m a.N) (HS.out.at_.belowAll HBY.out) (HS.out.had.belowAll HBY.out) (HO.out.o.belowAll HBY.out) (HO.out.h.belowAll HBY.out) (HH.out h1))
      clear h1
      go_wp2_with (go_at_call 29; refine HHM.out.mono ?_; rintro e _ ⟨rfl, uh, rfl⟩; dsimp only)
      exact HRET.out _ ((HS.out.fr.trans (HBY.out.mono HS.out.fr.size)).ext (Nat.le_trans HS.out.fr.size hsY) _) _ _ _ _ _ _ _ _ _ _ _ _ _ _ _ _ _ _ _ _ _ _ _ _ _ _ _ _ _ _ _ _ _ _ _ _ _ _ _ _ _ _ _ _ _ _ _ _ _ _ _ _ _ _ _ _ _ _ _ _ _ _ _ _ _ _ _ _ _ _ _ _ _ _ _ _ _ _ _ _ _ _ _ _ _ _ _ _ _ _ _ _ _ _ _ _ _ _ _ _ _ _ _ _ _ _ _ _ _ _ _ _ _ _ _ _ _ _ _ _ _ _ _ _ _ _ _ _ _ _ _ _ _ _ _ _ _ _ _ _ _ _ _ _ _ _ _ _ _ _ _ _ _ _ _ _ _ _ _ _ _ _ _ _ _ _ _ _ _ _ _ _ _ _ _ _ _ _ _ _ _ _ _ _ _ _ _ _ _ _ _ _ _ _ _ _ _ _ _ _ _ _ _ _ _ _ _ _ _ _ _ _ _ _ _ _ _ _ _ _ _ _ _ _ _ _ _ _ _ _ _ _ _ _ _ _ _ _ _ _ _ _ _ _ _ _ _
    case neg =>
      have e1 : (s.fin == 1) = false := by simpa using h1
      have HN1 := hide h1
      clear h1
      go_wp2_with fail
      exact HN.out HN1.out _ HBY.out _ _ _ _ _ _ _ _ _ _ _ _ _ _ _ _ _ _ _ _ _ _ _ _ _ _ _ _ _ _ _ _ _ _ _ _ _ _ _ _ _ _ _ _ _ _ _ _ _ _ _ _ _ _ _ _ _ _ _ _ _ _ _ _ _ _ _ _ _ _ _ _ _ _ _ _ _ _ _ _ _ _ _ _ _ _ _ _ _ _ _ _ _ _ _ _ _ _ _ _ _ _ _ _ _ _ _ _ _ _ _ _ _ _ _ _ _ _ _ _ _ _ _ _ _ _ _ _ _ _ _ _ _ _ _ _ _ _ _ _ _ _ _ _ _ _ _ _ _ _ _ _ _ _ _ _ _ _ _ _ _ _ _ _ _ _ _ _ _ _ _ _ _ _ _ _ _ _ _ _ _ _ _ _ _ _ _ _ _ _ _ _ _ _ _ _ _ _ _ _ _ _ _ _ _ _ _ _ _ _ _ _ _ _ _ _ _ _ _ _ _ _ _ _ _ _ _ _ _ _ _ _ _ _ _ _ _ _ _ _ _ _ _ _ _ _ _ _
  case true =>
    have h2 : (s.fin == 2) = false := by simpa using HSS.out.inserted hi
    have h2' := HSS.out.inserted hi
    rw [hi] at HINS
    clear hi
    go_upto_region 44 with (first | (go_at_call 14; refine (HSI.out _ (by repeat (first | exact Below.refl _ _ | assumption | refine Below.alloc ?_ (by simp [size_ext]; try omega) _ | refine Below.ext ?_ (by simp [size_ext]; try omega) _ | refine Below.drew ?_ | refine Below.setCell ?_ (by simp [size_ext]; try omega) _))).mono ?_; rintro e _ ⟨rfl, ui, rfl⟩; dsimp only) | (go_at_call 28; refine (HINS.out _).mono ?_; rintro e _ ⟨rfl, rfl⟩; dsimp only))
    refine name_world fun Y hY => ?_
    have HBY := hide (show Below V.heap.size V Y by rw [hY]; exact (by repeat (first | exact Below.refl _ _ | assumption | exact Hd.out (by assumption) | refine Below.alloc ?_ (by first | omega | (simp [size_ext]; try omega)) _ | refine Below.ext ?_ (by first | omega | (simp [size_ext]; try omega)) _ | refine Below.drew ?_ | refine Below.setCell ?_ (by first | omega | (simp [size_ext]; try omega)) _)))
    have hsY := HBY.out.size
    clear hY
    have z0Y : Y.cell? ⟨gz, 0, none⟩ = some (.int .i64 s.fin) := by rw [HBY.out.cell lz]; exact z0
    have p0Y : Y.cell? ⟨a.bm, 0, none⟩ = some (.int .i64 m.regs) := by rw [HBY.out.cell lm]; exact p0
    have p1Y : Y.cell? ⟨a.bm, 1, none⟩ = some (.slice a.A1 a.n1 a.c1) := by rw [HBY.out.cell lm]; exact p1
    have p2Y : Y.cell? ⟨a.bm, 2, none⟩ = some (.int .i64 m.ret) := by rw [HBY.out.cell lm]; exact p2
    have p3Y : Y.cell? ⟨a.bm, 3, none⟩ = some (.slice a.A2 a.n2 a.c2) := by rw [HBY.out.cell lm]; exact p3
    have lmY : a.bm < Y.heap.size := by omega
    have lzY : gz < Y.heap.size := by omega
    by_cases h1 : s.fin = 1
    case pos =>
      have e1 : (s.fin == 1) = true := by simpa using h1
      have HHM := hide (home9_any Y m S2 _ _ _ _ a.A1 a.A2 a.n1 a.c1 a.n2 a.c2 (H2.out.belowAll (HS.out.fr.trans (HBY.out.mono HS.out.fr.size))) a.N a.Aat a.Ahd Afr Ahr a.cat a.chd cfr chr la (valsR s m a.N) lh (hasR s m a.N) (HS.out.at_.belowAll HBY.out) (HS.out.had.belowAll HBY.out) (HO.out.o.belowAll HBY.out) (HO.out.h.belowAll HBY.out) (HH.out h1))
      clear h1
      go_wp2_with (go_at_call 29; refine HHM.out.mono ?_; rintro e _ ⟨rfl, uh, rfl⟩; dsimp only)
      exact HRET.out _ ((HS.out.fr.trans (HBY.out.mono HS.out.fr.size)).ext (Nat.le_trans HS.out.fr.size hsY) _) _ _ _ _ _ _ _ _ _ _ _ _ _ _ _ _ _ _ _ _ _ _ _ _ _ _ _ _ _ _ _ _ _ _ _ _ _ _ _ _ _ _ _ _ _ _ _ _ _ _ _ _ _ _ _ _ _ _ _ _ _ _ _ _ _ _ _ _ _ _ _ _ _ _ _ _ _ _ _ _ _ _ _ _ _ _ _ _ _ _ _ _ _ _ _ _ _ _ _ _ _ _ _ _ _ _ _ _ _ _ _ _ _ _ _ _ _ _ _ _ _ _ _ _ _ _ _ _ _ _ _ _ _ _ _ _ _ _ _ _ _ _ _ _ _ _ _ _ _ _ _ _ _ _ _ _ _ _ _ _ _ _ _ _ _ _ _ _ _ _ _ _ _ _ _ _ _ _ _ _ _ _ _ _ _ _ _ _ _ _ _ _ _ _ _ _ _ _ _ _ _ _ _ _ _ _ _ _ _ _ _ _ _ _ _ _ _ _ _ _ _ _ _ _ _ _ _ _ _ _ _ _ _ _ _ _ _ _ _ _ _ _ _ _ _ _ _
    case neg =>
      have e1 : (s.fin == 1) = false := by simpa using h1
      have HN1 := hide h1
      clear h1
      go_wp2_with fail
      exact HN.out HN1.out _ HBY.out _ _ _ _ _ _ _ _ _ _ _ _ _ _ _ _ _ _ _ _ _ _ _ _ _ _ _ _ _ _ _ _ _ _ _ _ _ _ _ _ _ _ _ _ _ _ _ _ _ _ _ _ _ _ _ _ _ _ _ _ _ _ _ _ _ _ _ _ _ _ _ _ _ _ _ _ _ _ _ _ _ _ _ _ _ _ _ _ _ _ _ _ _ _ _ _ _ _ _ _ _ _ _ _ _ _ _ _ _ _ _ _ _ _ _ _ _ _ _ _ _ _ _ _ _ _ _ _ _ _ _ _ _ _ _ _ _ _ _ _ _ _ _ _ _ _ _ _ _ _ _ _ _ _ _ _ _ _ _ _ _ _ _ _ _ _ _ _ _ _ _ _ _ _ _ _ _ _ _ _ _ _ _ _ _ _ _ _ _ _ _ _ _ _ _ _ _ _ _ _ _ _ _ _ _ _ _ _ _ _ _ _ _ _ _ _ _ _ _ _ _ _ _ _ _ _ _ _ _ _ _ _ _ _ _ _ _ _ _ _ _ _ _ _ _ _ _ _
end
end Go.Proofs.Ytkjipgelbjaggaa
