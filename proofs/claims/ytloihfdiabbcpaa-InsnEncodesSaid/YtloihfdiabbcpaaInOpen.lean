/- Instructions as arguments: read, and read again. -/
import Derived.Test.YtloihfdiabbcpaaProg
import Derived.WalkKit
import Derived.ProofKit
import Derived.OpenShut
import Derived.ShutString
import Derived.Lib.SmallJoins
import Derived.ChangeSame
namespace Go.Proofs.Ytloihfdiabbcpaa.Sx
open Go Go.ChangeShapes Go.WideShapes Go.ChangeAt Go.RowKit Go.Joins
set_option maxRecDepth 100000
theorem cells24 : Try.prog.cellsOf 24 = 5 := by kernel_rfl
theorem cells9 : Try.prog.cellsOf 9 = 1 := by kernel_rfl
theorem cells3 : Try.prog.cellsOf 3 = 1 := by kernel_rfl
section
variable {H : Type} {enc : TypeId × Value → H} {w : World} {base : Nat} {spare : Nat → Bool} {held : Bool}
theorem open_insn {r : Reach} {b0 : Nat} {v : Value} {d : DataW H} {p : List MemPlace} (hv : Value.okWide Try.prog w r b0 24 v) (h : DataW.Trod enc Try.prog w base spare held 24 v d p) :
    ∃ (s : ByteArray) (a b c n : Int), v = .agg #[.string s, .int .i64 a, .int .i64 b, .int .i64 c, .int .i64 n] ∧ d = .agg [.lit (.string s.data.toList), .lit (.int .i64 a), .lit (.int .i64 b), .lit (.int .i64 c), .lit (.int .i64 n)] ∧ p = [] ∧
      s.data.toList.length ≤ maxLen ∧ (Lit.int .i64 a).wf = true ∧ (Lit.int .i64 b).wf = true ∧ (Lit.int .i64 c).wf = true ∧ (Lit.int .i64 n).wf = true := by
  obtain ⟨cs, rfl, hsz⟩ := okWide_struct Try.underlying24 hv
  obtain ⟨l⟩ := cs
  rw [cells24] at hsz
  match l, hsz with
  | [c0, c1, c2, c3, c4], _ =>
    obtain ⟨fuel, hf⟩ := h
    obtain ⟨xs, m, _, hx, _, hlen, hg⟩ := DataW.trod_struct Try.underlying24 hf
    match xs, hlen with
    | [y0, y1, y2, y3, y4], _ =>
      have h0 := hg 0 _ rfl
      have h1 := hg 1 _ rfl
      have h2 := hg 2 _ rfl
      have h3 := hg 3 _ rfl
      have h4 := hg 4 _ rfl
      simp [Value.cells, cells9, cells3] at h0 h1 h2 h3 h4
      obtain ⟨s, e0, q0, ws⟩ := DataW.trod_string Try.underlying9 h0
      obtain ⟨a, e1, q1, wa⟩ := DataW.trod_int Try.underlying3 h1
      obtain ⟨b, e2, q2, wb⟩ := DataW.trod_int Try.underlying3 h2
      obtain ⟨c, e3, q3, wc⟩ := DataW.trod_int Try.underlying3 h3
      obtain ⟨n, e4, q4, wn⟩ := DataW.trod_int Try.underlying3 h4
      simp at e0 e1 e2 e3 e4
      subst e0 e1 e2 e3 e4 q0 q1 q2 q3 q4
      simp only [Prod.mk.injEq] at hx
      exact ⟨s, a, b, c, n, rfl, by simpa using hx.1, by simpa using hx.2, ws, wa, wb, wc, wn⟩
theorem shut_insn {s : ByteArray} {a b c n : Int} (ws : s.data.toList.length ≤ maxLen) (wa : (Lit.int .i64 a).wf = true) (wb : (Lit.int .i64 b).wf = true) (wc : (Lit.int .i64 c).wf = true) (wn : (Lit.int .i64 n).wf = true) :
    DataW.Trod enc Try.prog w base spare held 24 (.agg #[.string s, .int .i64 a, .int .i64 b, .int .i64 c, .int .i64 n]) (.agg [.lit (.string s.data.toList), .lit (.int .i64 a), .lit (.int .i64 b), .lit (.int .i64 c), .lit (.int .i64 n)]) [] := by
  have ws' : s.size ≤ maxLen := by rw [Array.length_toList] at ws; exact ws
  have := trod_struct_mk (enc := enc) (P := Try.prog) (w := w) (base := base) (spare := spare) (held := held) (n := 1) (cs := [.string s, .int .i64 a, .int .i64 b, .int .i64 c, .int .i64 n])
    (xs := [(.lit (.string s.data.toList), []), (.lit (.int .i64 a), []), (.lit (.int .i64 b), []), (.lit (.int .i64 c), []), (.lit (.int .i64 n), [])]) Try.underlying24 (by simp [cells24])
    (by simp [cells9, cells3, DataW.trod, Try.underlying9, Try.underlying3, ws', wa, wb, wc, wn])
  exact ⟨2, by simpa [Value.cells] using this⟩
end
end Go.Proofs.Ytloihfdiabbcpaa.Sx
