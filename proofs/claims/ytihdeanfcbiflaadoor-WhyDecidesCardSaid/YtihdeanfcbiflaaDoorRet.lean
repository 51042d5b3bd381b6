/- What a function hands back where a result lies in a cell of its own. Over any program; no condition. -/
import Derived.RowKit
import Derived.Laws.Rows
import Derived.WalkKit
namespace Go.Proofs.YtihdeanfcbiflaaDoor.Mk
open Go.RowKit
section
variable {P : Program} {fn : Func} {tmps : Array Value} {w : World}
theorem results_cell (a : Tmp) (t : TypeId) (p : Addr) (v : Value) (hr : fn.results = #[.cell a t]) (hp : tmps.getD a undef = .pointer (some p)) (hl : (loadVar t p).run P w = .ok v w) : (results fn tmps).run P w = .ok v w := by
  have hp' : tmps[a]?.getD undef = .pointer (some p) := by simpa using hp
  simp [results, hr, hp', asAddr, hl]
theorem results_tmp_cell (x a : Tmp) (t : TypeId) (p : Addr) (v : Value) (hr : fn.results = #[.tmp x, .cell a t]) (hp : tmps.getD a undef = .pointer (some p)) (hl : (loadVar t p).run P w = .ok v w) : (results fn tmps).run P w = .ok (.tuple #[tmps.getD x undef, v]) w := by
  have hp' : tmps[a]?.getD undef = .pointer (some p) := by simpa using hp
  simp [results, hr, hp', asAddr, hl, Result.andThen]
theorem res_cell_tmp (a x : Tmp) (t : TypeId) (p : Addr) (v : Value) (hr : fn.results = #[.cell a t, .tmp x]) (hp : tmps.getD a undef = .pointer (some p)) (hl : (loadVar t p).run P w = .ok v w) : (results fn tmps).run P w = .ok (.tuple #[v, tmps.getD x undef]) w := by
  have hp' : tmps[a]?.getD undef = .pointer (some p) := by simpa using hp
  simp [results, hr, hp', asAddr, hl, Result.andThen]
theorem results_cell_cell (a b : Tmp) (t u : TypeId) (p q : Addr) (v y : Value) (hr : fn.results = #[.cell a t, .cell b u]) (hp : tmps.getD a undef = .pointer (some p)) (hq : tmps.getD b undef = .pointer (some q)) (hl : (loadVar t p).run P w = .ok v w) (hl2 : (loadVar u q).run P w = .ok y w) :
    (results fn tmps).run P w = .ok (.tuple #[v, y]) w := by
  have hp' : tmps[a]?.getD undef = .pointer (some p) := by simpa using hp
  have hq' : tmps[b]?.getD undef = .pointer (some q) := by simpa using hq
  simp [results, hr, hp', hq', asAddr, hl, hl2, Result.andThen]
theorem res_cell_cell_tmp (a b x : Tmp) (t u : TypeId) (p q : Addr) (v y : Value) (hr : fn.results = #[.cell a t, .cell b u, .tmp x]) (hp : tmps.getD a undef = .pointer (some p)) (hq : tmps.getD b undef = .pointer (some q)) (hl : (loadVar t p).run P w = .ok v w) (hl2 : (loadVar u q).run P w = .ok y w) :
    (results fn tmps).run P w = .ok (.tuple #[v, y, tmps.getD x undef]) w := by
  have hp' : tmps[a]?.getD undef = .pointer (some p) := by simpa using hp
  have hq' : tmps[b]?.getD undef = .pointer (some q) := by simpa using hq
  simp [results, hr, hp', hq', asAddr, hl, hl2, Result.andThen]
end
end Go.Proofs.YtihdeanfcbiflaaDoor.Mk
