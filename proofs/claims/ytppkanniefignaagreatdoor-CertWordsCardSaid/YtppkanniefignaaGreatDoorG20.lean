/- law28: walks: the chapter's example. law28: facts stand in a strict order. law28: CertOrder: its walk. -/
import Derived.Test.YtppkanniefignaaGreatDoorG19
import Derived.Test.YtppkanniefignaaGreatDoorB28
set_option linter.unusedSimpArgs false
set_option linter.unusedVariables false
namespace Go.Proofs.YtppkanniefignaaGreatDoor
open Go.RowKit Go.Maps
def s28A : ByteArray := ⟨#[116, 105, 108, 101, 32, 114, 111, 111, 116, 32, 45, 49, 32, 58, 32, 48, 10, 101, 100, 103, 101, 32, 118, 49, 32, 61, 32, 114, 48, 32, 44, 32, 104, 50, 32, 61, 32, 115, 53, 10]⟩
def s28B : ByteArray := ⟨#[116, 105, 108, 101, 32, 114, 111, 111, 116, 32, 45, 49, 32, 58, 32, 48, 32, 59, 32, 116, 104, 101, 32, 114, 111, 111, 116, 10, 10, 101, 100, 103, 101, 32, 104, 50, 32, 61, 32, 115, 53, 32, 44, 32, 118, 48, 49, 32, 61, 32, 114, 48]⟩
theorem parse_28A : parse28 s28A = (⟨[], []⟩, 2, 21, 7) := by decide +kernel
theorem parse_28B : parse28 s28B = (⟨[], []⟩, 3, 16, 7) := by decide +kernel
theorem CertO.nt {w w' : World} {A : Option Addr} {n k : Nat} {B : Option Addr} {m j D : Nat} {St Sf : Nat → Prop} {c : Cert} (h : CertO w w' A n k B m j D St Sf c) : c.tiles.length = n := by
 obtain ⟨vals, h1, _⟩ := h.ot
 rcases h1.2 with ⟨e, h0⟩ | ⟨g, cap, cur, e, _⟩
 ·injection e with e1 e2 e3; rw [e2]; exact h0
 ·injection e with e1 e2 e3; exact e2.symm
theorem CertO.nf {w w' : World} {A : Option Addr} {n k : Nat} {B : Option Addr} {m j D : Nat} {St Sf : Nat → Prop} {c : Cert} (h : CertO w w' A n k B m j D St Sf c) : c.facts.length = m := by
 obtain ⟨vals, h1, _⟩ := h.of
 rcases h1.2 with ⟨e, h0⟩ | ⟨g, cap, cur, e, _⟩
 ·injection e with e1 e2 e3; rw [e2]; exact h0
 ·injection e with e1 e2 e3; exact e2.symm
set_option maxRecDepth 100000 in
set_option maxHeartbeats 8000000 in
theorem awake28_any (w : World) (hv : VarsP w) : Calls Tryz.prog 7 #[] w (RetX (.bool true) w) := by
 have HA := hide (show Calls Tryz.prog 8 #[.string ⟨#[116, 105, 108, 101, 32, 114, 111, 111, 116, 32, 45, 49, 32, 58, 32, 48, 10, 101, 100, 103, 101, 32, 118, 49, 32, 61, 32, 114, 48, 32, 44, 32, 104, 50, 32, 61, 32, 115, 53, 10]⟩] w (CertP (⟨[], []⟩, 2, 21, 7) w) from parse_28A ▸ parse28_any s28A w hv)
 have HB := hide (fun (W : World) (hW : VarsP W) => show Calls Tryz.prog 8 #[.string ⟨#[116, 105, 108, 101, 32, 114, 111, 111, 116, 32, 45, 49, 32, 58, 32, 48, 32, 59, 32, 116, 104, 101, 32, 114, 111, 111, 116, 10, 10, 101, 100, 103, 101, 32, 104, 50, 32, 61, 32, 115, 53, 32, 44, 32, 118, 48, 49, 32, 61, 32, 114, 48]⟩] W (CertP (⟨[], []⟩, 3, 16, 7) W) from parse_28B ▸ parse28_any s28B W hW)
 have HV := hide hv
 clear hv
 go_enter Tryz.func7, Tryz.ntmps7
 go_wp2_with (go_at_call 8; (with_reducible refine HA.out.mono ?_); rintro e W1 ⟨A, n, k, B, m, j, D, St, Sf, rfl, ho, hb⟩; dsimp only; have HO := hide ho; have HB1 := hide hb; clear ho hb; refine Hd.out ?_)
 obtain ⟨W2, hW2⟩ : ∃ W', W1.alloc (.cells #[.slice A n k, .slice B m j] 26) = W' := ⟨_, rfl⟩
 have HB2 := hide (show Below w.heap.size w W2 by rw [← hW2]; exact HB1.out.alloc HB1.out.size _)
 have HV2 := hide (show VarsP W2 from HV.out.below HB2.out HV.out.v.sz)
 clear HA HB1 HO
 refine hide ?_
 go_wp2_with (go_at_call 8; (with_reducible refine (HB.out _ HV2.out).mono ?_); rintro e W3 ⟨A2, n2, k2, B2, m2, j2, D2, St2, Sf2, rfl, ho, hb⟩; dsimp only; have HN := ho.nt; have HB3 := hide (HB2.out.trans (hb.mono HB2.out.size)); clear ho hb; refine Hd.out ?_)
 have hn2 : n2 = 0 := HN.symm
 subst hn2
 clear HN
 refine hide ?_
 go_wp2_with fail
 go_ret
 exact RetX.b rfl (HB3.out.alloc HB3.out.size _)
end Go.Proofs.YtppkanniefignaaGreatDoor
namespace Go.Proofs.YtppkanniefignaaGreatDoor
end Go.Proofs.YtppkanniefignaaGreatDoor
namespace Go.Proofs.YtppkanniefignaaGreatDoor
open Go.RowKit Go.Maps
theorem eq_fact_run (a b : Fact) (w : World) : (Op.equalIn 10000 42 (facV a) (facV b)).run Tryz.prog w = .ok (decide (a = b)) w := by
 have he : decide (a = b) = (a.var == b.var && (a.loc.slot == b.loc.slot && a.loc.n == b.loc.n)) := by
  obtain ⟨va, ⟨sa, na⟩⟩ := a
  obtain ⟨vb, ⟨sb, nb⟩⟩ := b
  rw [Bool.eq_iff_iff]
  simp
 rw [he]
 obtain ⟨va, ⟨sa, na⟩⟩ := a
 obtain ⟨vb, ⟨sb, nb⟩⟩ := b
 dsimp only
 go_simp
 by_cases h1 : va = vb <;> by_cases h2 : sa = sb <;> by_cases h3 : na = nb <;> simp_all
end Go.Proofs.YtppkanniefignaaGreatDoor
