/- law28: walks: what cert.Parse answers at a text that is too long. -/
import Derived.Test.YtppkanniefignaaDoorC11b
set_option linter.unusedSimpArgs false
set_option linter.unusedVariables false
namespace Go.Proofs.YtppkanniefignaaDoor
open Go.RowKit Go.Maps
theorem size_cert : (Tryd.prog.info? 32).map (·.size) = some 2 := by kernel_rfl
theorem results_cell_tmp3 {P : Program} {fn : Func} {p t1 t2 t3 : Tmp} {ty : TypeId} {a : Addr} {v : Value} (h : fn.results = #[.cell p ty, .tmp t1, .tmp t2, .tmp t3]) (tmps : Array Value) (w : World)
    (hp : tmps.getD p undef = .pointer (some a)) (hl : (loadVar ty a).run P w = .ok v w) : (results fn tmps).run P w = .ok (.tuple #[v, tmps.getD t1 undef, tmps.getD t2 undef, tmps.getD t3 undef]) w := by
  have hp' : tmps[p]?.getD undef = .pointer (some a) := by simpa using hp
  simp [results, h, hp', asAddr, hl]
theorem results_cert {fn : Func} {p t1 t2 t3 : Tmp} {g : Nat} {a1 a2 : Value} (h : fn.results = #[.cell p 32, .tmp t1, .tmp t2, .tmp t3]) (tmps : Array Value) (w : World)
    (hp : tmps.getD p undef = .pointer (some ⟨g, 0, none⟩)) (hg : w.heap[g]? = some (.cells #[a1, a2] 32 (0, 0))) : (results fn tmps).run Tryd.prog w = .ok (.tuple #[.agg #[a1, a2], tmps.getD t1 undef, tmps.getD t2 undef, tmps.getD t3 undef]) w :=
  results_cell_tmp3 h tmps w hp (run_loadVar_row w g _ _ _ (0, 0) _ hg Tryd.underlying32 rfl size_cert)
set_option maxRecDepth 100000 in
set_option maxHeartbeats 8000000 in
theorem parse28_long (s : ByteArray) (w : World) (hbig : 262144 < s.size) : Calls Tryd.prog 6 #[.string s] w (fun e w' => e = .returned (.tuple #[.agg #[.slice none 0 0, .slice none 0 0], .int .i64 0, .int .i64 0, .int .i64 3]) ∧ Below w.heap.size w w') := by
  go_enter Tryd.func6, Tryd.ntmps6
  go_wp2_with fail
  exact bodyPost_ret (results_cert Tryd.results6 _ _ rfl (heap_alloc_new w _)) rfl ⟨rfl, (Below.refl _ _).alloc (Nat.le_refl _) _⟩
end Go.Proofs.YtppkanniefignaaDoor
