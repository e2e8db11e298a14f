/- WordEnds: its walk. -/
import Derived.Test.YtmlopggainkoiaaDoorSH5
import Derived.Laws.Cover4
import Derived.Laws.BytesString
import Derived.Laws.IdiomStrings
set_option linter.unusedSimpArgs false
set_option linter.unusedVariables false
namespace Go.Proofs.YtmlopggainkoiaaDoor
open Go.RowKit

/-- It returns true, in a world with blocks more than w's. -/
def RetB (w : World) (e : Ending) (w' : World) : Prop := e = .returned (.bool true) ∧ Below w.heap.size w w'
theorem reads_b (w : World) (hv : VarsS w) (s : ByteArray) (W : World) (hs : s.size ≤ 9223372036854775807) (hb : Below w.heap.size w W) : Calls Tryd.prog 4 #[.string s] W (RetB w) := by
  refine (wordReads_any s W hs (hv.below hb hv.v.sz).v).mono ?_
  rintro e w' ⟨rfl, u, rfl⟩
  exact ⟨rfl, hb.ext hb.size u⟩
theorem shows_b (w : World) (hv : VarsS w) (r : Int) (W : World) (hb : Below w.heap.size w W) : Calls Tryd.prog 5 #[.slice none 0 0, .int .i32 r] W (RetB w) := by
  refine (wordShows_any W (fun _ => True) none 0 0 [] r Sl.nil (hv.below hb hv.v.sz) (by omega) (fun _ h => by cases h)).mono ?_
  rintro e w' ⟨rfl, u, rfl⟩
  exact ⟨rfl, hb.ext hb.size u⟩
theorem awake_b (w : World) (hv : VarsS w) (W : World) (hb : Below w.heap.size w W) : Calls Tryd.prog 12 #[] W (RetB w) := by
  refine (awake01_any W (hv.below hb hv.v.sz).v).mono ?_
  rintro e w' ⟨rfl, u, rfl⟩
  exact ⟨rfl, hb.ext hb.size u⟩
def RetStr (n : Nat) (w : World) (e : Ending) (w' : World) : Prop := (∃ s : ByteArray, e = .returned (.string s) ∧ s.size = n) ∧ w' = w
theorem bytes_any (W : World) (g n : Nat) (cs : Array Value) (T : TypeId) (fz : Nat × Nat) (h : W.heap[g]? = some (.cells cs T fz)) (hn : cs.size = n) (hc : ∀ v ∈ cs.toList, ∃ z : Int, v = .int .u8 z ∧ 0 ≤ z ∧ z < 256) :
    Calls Tryd.prog 26 #[.slice (some ⟨g, 0, none⟩) n n] W (RetStr n W) := by
  subst hn
  have key : ∀ l : List Value, (∀ v ∈ l, ∃ z : Int, v = .int .u8 z ∧ 0 ≤ z ∧ z < 256) → ∃ bs : List UInt8, l = bs.map (fun b => Value.int .u8 (b.toNat : Int)) := by
    intro l
    induction l with
    | nil => intro _; exact ⟨[], rfl⟩
    | cons v l ih =>
      intro hl
      obtain ⟨z, rfl, h0, h1⟩ := hl v (List.mem_cons_self ..)
      obtain ⟨bs, hbs⟩ := ih fun v hv => hl v (by simp [hv])
      refine ⟨UInt8.ofNat z.toNat :: bs, ?_⟩
      rw [hbs, List.map_cons]
      congr 2
      rw [UInt8.toNat_ofNat']
      omega
  obtain ⟨bs, hbs⟩ := key cs.toList hc
  have hsz : bs.length = cs.size := by have := congrArg List.length hbs; simpa using this.symm
  have hcv := run_convert_bytes_back (P := Tryd.prog) W 84 9 5 ⟨g, 0, none⟩ cs.size bs Tryd.underlying84 Tryd.underlying5 Tryd.underlying9 (fun j hj => by
    have : cs[j]? = some (.int .u8 (bs[j].toNat : Int)) := by rw [← Array.getElem?_toList, hbs]; simp [hj]
    rw [Addr.add_lit, cell_of_row W g _ cs T fz h]
    simpa using this)
  rw [hsz] at hcv
  clear hc hbs
  go_enter Tryd.func26, Tryd.ntmps26
  go_wp2_with (simp only [hcv])
  go_ret
  exact ⟨⟨_, rfl, by show bs.toArray.size = _; simpa using hsz⟩, rfl⟩
end Go.Proofs.YtmlopggainkoiaaDoor
