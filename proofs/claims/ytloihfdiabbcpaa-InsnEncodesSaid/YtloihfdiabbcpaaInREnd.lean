/- The document's Encode answers what insn.Encode does. -/
import Derived.Test.YtloihfdiabbcpaaProg
import Derived.Test.YtloihfdiabbcpaaSxSum
import Derived.Test.YtloihfdiabbcpaaInE0
import Derived.Test.YtloihfdiabbcpaaInE1
import Derived.Test.YtloihfdiabbcpaaInE2
import Derived.Test.YtloihfdiabbcpaaInE3
namespace Go.Proofs.Ytloihfdiabbcpaa.Sx
open Go Go.RowKit
set_option linter.unusedVariables false
set_option linter.unusedSimpArgs false
set_option maxRecDepth 100000
structure ReOk (k : Nat) (nm : List UInt8) (f : Nat) : Prop where
  out : callTop Try.prog sumT 300 13 [.agg [.str (.lit nm), .int .i64 (.var 0), .int .i64 (.var 1), .int .i64 (.var 2), .int .i64 (.var 3)]] [] = reT k f
theorem ro0 (r : Rw) (h : rowsL[0]? = some r) : ReOk 0 r.name r.form := by
  have q : rowsL[0]? = some ⟨[108, 117, 105], 0, 55⟩ := by kernel_rfl
  rw [q] at h; injection h with h; subst h
  exact ⟨re0_eq⟩
theorem ro1 (r : Rw) (h : rowsL[1]? = some r) : ReOk 1 r.name r.form := by
  have q : rowsL[1]? = some ⟨[97, 117, 105, 112, 99], 0, 23⟩ := by kernel_rfl
  rw [q] at h; injection h with h; subst h
  exact ⟨re1_eq⟩
theorem ro2 (r : Rw) (h : rowsL[2]? = some r) : ReOk 2 r.name r.form := by
  have q : rowsL[2]? = some ⟨[106, 97, 108], 1, 111⟩ := by kernel_rfl
  rw [q] at h; injection h with h; subst h
  exact ⟨re2_eq⟩
theorem ro3 (r : Rw) (h : rowsL[3]? = some r) : ReOk 3 r.name r.form := by
  have q : rowsL[3]? = some ⟨[106, 97, 108, 114], 2, 103⟩ := by kernel_rfl
  rw [q] at h; injection h with h; subst h
  exact ⟨re3_eq⟩
theorem ro4 (r : Rw) (h : rowsL[4]? = some r) : ReOk 4 r.name r.form := by
  have q : rowsL[4]? = some ⟨[108, 98], 2, 3⟩ := by kernel_rfl
  rw [q] at h; injection h with h; subst h
  exact ⟨re4_eq⟩
theorem ro5 (r : Rw) (h : rowsL[5]? = some r) : ReOk 5 r.name r.form := by
  have q : rowsL[5]? = some ⟨[108, 104], 2, 4099⟩ := by kernel_rfl
  rw [q] at h; injection h with h; subst h
  exact ⟨re5_eq⟩
theorem ro6 (r : Rw) (h : rowsL[6]? = some r) : ReOk 6 r.name r.form := by
  have q : rowsL[6]? = some ⟨[108, 119], 2, 8195⟩ := by kernel_rfl
  rw [q] at h; injection h with h; subst h
  exact ⟨re6_eq⟩
theorem ro7 (r : Rw) (h : rowsL[7]? = some r) : ReOk 7 r.name r.form := by
  have q : rowsL[7]? = some ⟨[108, 98, 117], 2, 16387⟩ := by kernel_rfl
  rw [q] at h; injection h with h; subst h
  exact ⟨re7_eq⟩
theorem ro8 (r : Rw) (h : rowsL[8]? = some r) : ReOk 8 r.name r.form := by
  have q : rowsL[8]? = some ⟨[108, 104, 117], 2, 20483⟩ := by kernel_rfl
  rw [q] at h; injection h with h; subst h
  exact ⟨re8_eq⟩
theorem ro9 (r : Rw) (h : rowsL[9]? = some r) : ReOk 9 r.name r.form := by
  have q : rowsL[9]? = some ⟨[97, 100, 100, 105], 2, 19⟩ := by kernel_rfl
  rw [q] at h; injection h with h; subst h
  exact ⟨re9_eq⟩
theorem ro10 (r : Rw) (h : rowsL[10]? = some r) : ReOk 10 r.name r.form := by
  have q : rowsL[10]? = some ⟨[115, 108, 116, 105], 2, 8211⟩ := by kernel_rfl
  rw [q] at h; injection h with h; subst h
  exact ⟨re10_eq⟩
theorem ro11 (r : Rw) (h : rowsL[11]? = some r) : ReOk 11 r.name r.form := by
  have q : rowsL[11]? = some ⟨[115, 108, 116, 105, 117], 2, 12307⟩ := by kernel_rfl
  rw [q] at h; injection h with h; subst h
  exact ⟨re11_eq⟩
theorem ro12 (r : Rw) (h : rowsL[12]? = some r) : ReOk 12 r.name r.form := by
  have q : rowsL[12]? = some ⟨[120, 111, 114, 105], 2, 16403⟩ := by kernel_rfl
  rw [q] at h; injection h with h; subst h
  exact ⟨re12_eq⟩
theorem ro13 (r : Rw) (h : rowsL[13]? = some r) : ReOk 13 r.name r.form := by
  have q : rowsL[13]? = some ⟨[111, 114, 105], 2, 24595⟩ := by kernel_rfl
  rw [q] at h; injection h with h; subst h
  exact ⟨re13_eq⟩
theorem ro14 (r : Rw) (h : rowsL[14]? = some r) : ReOk 14 r.name r.form := by
  have q : rowsL[14]? = some ⟨[97, 110, 100, 105], 2, 28691⟩ := by kernel_rfl
  rw [q] at h; injection h with h; subst h
  exact ⟨re14_eq⟩
theorem ro15 (r : Rw) (h : rowsL[15]? = some r) : ReOk 15 r.name r.form := by
  have q : rowsL[15]? = some ⟨[115, 108, 108, 105], 3, 4115⟩ := by kernel_rfl
  rw [q] at h; injection h with h; subst h
  exact ⟨re15_eq⟩
theorem ro16 (r : Rw) (h : rowsL[16]? = some r) : ReOk 16 r.name r.form := by
  have q : rowsL[16]? = some ⟨[115, 114, 108, 105], 3, 20499⟩ := by kernel_rfl
  rw [q] at h; injection h with h; subst h
  exact ⟨re16_eq⟩
theorem ro17 (r : Rw) (h : rowsL[17]? = some r) : ReOk 17 r.name r.form := by
  have q : rowsL[17]? = some ⟨[115, 114, 97, 105], 3, 1073762323⟩ := by kernel_rfl
  rw [q] at h; injection h with h; subst h
  exact ⟨re17_eq⟩
theorem ro18 (r : Rw) (h : rowsL[18]? = some r) : ReOk 18 r.name r.form := by
  have q : rowsL[18]? = some ⟨[98, 101, 113], 4, 99⟩ := by kernel_rfl
  rw [q] at h; injection h with h; subst h
  exact ⟨re18_eq⟩
theorem ro19 (r : Rw) (h : rowsL[19]? = some r) : ReOk 19 r.name r.form := by
  have q : rowsL[19]? = some ⟨[98, 110, 101], 4, 4195⟩ := by kernel_rfl
  rw [q] at h; injection h with h; subst h
  exact ⟨re19_eq⟩
theorem ro20 (r : Rw) (h : rowsL[20]? = some r) : ReOk 20 r.name r.form := by
  have q : rowsL[20]? = some ⟨[98, 108, 116], 4, 16483⟩ := by kernel_rfl
  rw [q] at h; injection h with h; subst h
  exact ⟨re20_eq⟩
theorem ro21 (r : Rw) (h : rowsL[21]? = some r) : ReOk 21 r.name r.form := by
  have q : rowsL[21]? = some ⟨[98, 103, 101], 4, 20579⟩ := by kernel_rfl
  rw [q] at h; injection h with h; subst h
  exact ⟨re21_eq⟩
theorem ro22 (r : Rw) (h : rowsL[22]? = some r) : ReOk 22 r.name r.form := by
  have q : rowsL[22]? = some ⟨[98, 108, 116, 117], 4, 24675⟩ := by kernel_rfl
  rw [q] at h; injection h with h; subst h
  exact ⟨re22_eq⟩
theorem ro23 (r : Rw) (h : rowsL[23]? = some r) : ReOk 23 r.name r.form := by
  have q : rowsL[23]? = some ⟨[98, 103, 101, 117], 4, 28771⟩ := by kernel_rfl
  rw [q] at h; injection h with h; subst h
  exact ⟨re23_eq⟩
theorem ro24 (r : Rw) (h : rowsL[24]? = some r) : ReOk 24 r.name r.form := by
  have q : rowsL[24]? = some ⟨[115, 98], 5, 35⟩ := by kernel_rfl
  rw [q] at h; injection h with h; subst h
  exact ⟨re24_eq⟩
theorem ro25 (r : Rw) (h : rowsL[25]? = some r) : ReOk 25 r.name r.form := by
  have q : rowsL[25]? = some ⟨[115, 104], 5, 4131⟩ := by kernel_rfl
  rw [q] at h; injection h with h; subst h
  exact ⟨re25_eq⟩
theorem ro26 (r : Rw) (h : rowsL[26]? = some r) : ReOk 26 r.name r.form := by
  have q : rowsL[26]? = some ⟨[115, 119], 5, 8227⟩ := by kernel_rfl
  rw [q] at h; injection h with h; subst h
  exact ⟨re26_eq⟩
theorem ro27 (r : Rw) (h : rowsL[27]? = some r) : ReOk 27 r.name r.form := by
  have q : rowsL[27]? = some ⟨[97, 100, 100], 6, 51⟩ := by kernel_rfl
  rw [q] at h; injection h with h; subst h
  exact ⟨re27_eq⟩
theorem ro28 (r : Rw) (h : rowsL[28]? = some r) : ReOk 28 r.name r.form := by
  have q : rowsL[28]? = some ⟨[115, 108, 108], 6, 4147⟩ := by kernel_rfl
  rw [q] at h; injection h with h; subst h
  exact ⟨re28_eq⟩
theorem ro29 (r : Rw) (h : rowsL[29]? = some r) : ReOk 29 r.name r.form := by
  have q : rowsL[29]? = some ⟨[115, 108, 116], 6, 8243⟩ := by kernel_rfl
  rw [q] at h; injection h with h; subst h
  exact ⟨re29_eq⟩
theorem ro30 (r : Rw) (h : rowsL[30]? = some r) : ReOk 30 r.name r.form := by
  have q : rowsL[30]? = some ⟨[115, 108, 116, 117], 6, 12339⟩ := by kernel_rfl
  rw [q] at h; injection h with h; subst h
  exact ⟨re30_eq⟩
theorem ro31 (r : Rw) (h : rowsL[31]? = some r) : ReOk 31 r.name r.form := by
  have q : rowsL[31]? = some ⟨[120, 111, 114], 6, 16435⟩ := by kernel_rfl
  rw [q] at h; injection h with h; subst h
  exact ⟨re31_eq⟩
theorem ro32 (r : Rw) (h : rowsL[32]? = some r) : ReOk 32 r.name r.form := by
  have q : rowsL[32]? = some ⟨[115, 114, 108], 6, 20531⟩ := by kernel_rfl
  rw [q] at h; injection h with h; subst h
  exact ⟨re32_eq⟩
theorem ro33 (r : Rw) (h : rowsL[33]? = some r) : ReOk 33 r.name r.form := by
  have q : rowsL[33]? = some ⟨[111, 114], 6, 24627⟩ := by kernel_rfl
  rw [q] at h; injection h with h; subst h
  exact ⟨re33_eq⟩
theorem ro34 (r : Rw) (h : rowsL[34]? = some r) : ReOk 34 r.name r.form := by
  have q : rowsL[34]? = some ⟨[97, 110, 100], 6, 28723⟩ := by kernel_rfl
  rw [q] at h; injection h with h; subst h
  exact ⟨re34_eq⟩
theorem ro35 (r : Rw) (h : rowsL[35]? = some r) : ReOk 35 r.name r.form := by
  have q : rowsL[35]? = some ⟨[115, 117, 98], 6, 1073741875⟩ := by kernel_rfl
  rw [q] at h; injection h with h; subst h
  exact ⟨re35_eq⟩
theorem ro36 (r : Rw) (h : rowsL[36]? = some r) : ReOk 36 r.name r.form := by
  have q : rowsL[36]? = some ⟨[115, 114, 97], 6, 1073762355⟩ := by kernel_rfl
  rw [q] at h; injection h with h; subst h
  exact ⟨re36_eq⟩
theorem ro37 (r : Rw) (h : rowsL[37]? = some r) : ReOk 37 r.name r.form := by
  have q : rowsL[37]? = some ⟨[109, 117, 108], 6, 33554483⟩ := by kernel_rfl
  rw [q] at h; injection h with h; subst h
  exact ⟨re37_eq⟩
theorem ro38 (r : Rw) (h : rowsL[38]? = some r) : ReOk 38 r.name r.form := by
  have q : rowsL[38]? = some ⟨[109, 117, 108, 104], 6, 33558579⟩ := by kernel_rfl
  rw [q] at h; injection h with h; subst h
  exact ⟨re38_eq⟩
theorem ro39 (r : Rw) (h : rowsL[39]? = some r) : ReOk 39 r.name r.form := by
  have q : rowsL[39]? = some ⟨[109, 117, 108, 104, 115, 117], 6, 33562675⟩ := by kernel_rfl
  rw [q] at h; injection h with h; subst h
  exact ⟨re39_eq⟩
theorem ro40 (r : Rw) (h : rowsL[40]? = some r) : ReOk 40 r.name r.form := by
  have q : rowsL[40]? = some ⟨[109, 117, 108, 104, 117], 6, 33566771⟩ := by kernel_rfl
  rw [q] at h; injection h with h; subst h
  exact ⟨re40_eq⟩
theorem ro41 (r : Rw) (h : rowsL[41]? = some r) : ReOk 41 r.name r.form := by
  have q : rowsL[41]? = some ⟨[100, 105, 118], 6, 33570867⟩ := by kernel_rfl
  rw [q] at h; injection h with h; subst h
  exact ⟨re41_eq⟩
theorem ro42 (r : Rw) (h : rowsL[42]? = some r) : ReOk 42 r.name r.form := by
  have q : rowsL[42]? = some ⟨[100, 105, 118, 117], 6, 33574963⟩ := by kernel_rfl
  rw [q] at h; injection h with h; subst h
  exact ⟨re42_eq⟩
theorem ro43 (r : Rw) (h : rowsL[43]? = some r) : ReOk 43 r.name r.form := by
  have q : rowsL[43]? = some ⟨[114, 101, 109], 6, 33579059⟩ := by kernel_rfl
  rw [q] at h; injection h with h; subst h
  exact ⟨re43_eq⟩
theorem ro44 (r : Rw) (h : rowsL[44]? = some r) : ReOk 44 r.name r.form := by
  have q : rowsL[44]? = some ⟨[114, 101, 109, 117], 6, 33583155⟩ := by kernel_rfl
  rw [q] at h; injection h with h; subst h
  exact ⟨re44_eq⟩
theorem ro45 (r : Rw) (h : rowsL[45]? = some r) : ReOk 45 r.name r.form := by
  have q : rowsL[45]? = some ⟨[101, 99, 97, 108, 108], 7, 115⟩ := by kernel_rfl
  rw [q] at h; injection h with h; subst h
  exact ⟨re45_eq⟩
theorem ro46 (r : Rw) (h : rowsL[46]? = some r) : ReOk 46 r.name r.form := by
  have q : rowsL[46]? = some ⟨[101, 98, 114, 101, 97, 107], 7, 1048691⟩ := by kernel_rfl
  rw [q] at h; injection h with h; subst h
  exact ⟨re46_eq⟩
theorem re_all : ∀ (k : Nat) (r : Rw), rowsL[k]? = some r → ReOk k r.name r.form
  | 0 => ro0
  | 1 => ro1
  | 2 => ro2
  | 3 => ro3
  | 4 => ro4
  | 5 => ro5
  | 6 => ro6
  | 7 => ro7
  | 8 => ro8
  | 9 => ro9
  | 10 => ro10
  | 11 => ro11
  | 12 => ro12
  | 13 => ro13
  | 14 => ro14
  | 15 => ro15
  | 16 => ro16
  | 17 => ro17
  | 18 => ro18
  | 19 => ro19
  | 20 => ro20
  | 21 => ro21
  | 22 => ro22
  | 23 => ro23
  | 24 => ro24
  | 25 => ro25
  | 26 => ro26
  | 27 => ro27
  | 28 => ro28
  | 29 => ro29
  | 30 => ro30
  | 31 => ro31
  | 32 => ro32
  | 33 => ro33
  | 34 => ro34
  | 35 => ro35
  | 36 => ro36
  | 37 => ro37
  | 38 => ro38
  | 39 => ro39
  | 40 => ro40
  | 41 => ro41
  | 42 => ro42
  | 43 => ro43
  | 44 => ro44
  | 45 => ro45
  | 46 => ro46
  | k + 47 => fun r h => by
    have : rowsL[k + 47]? = none := List.getElem?_eq_none (by show 47 ≤ k + 47; omega)
    rw [this] at h; simp at h
def encRes2 (k : Nat) (a b c n : Int) : Value := .tuple #[.int .i64 (encI rowsL k a b c n), .bool (encB rowsL k a b c n)]
theorem re_calls {k : Nat} {r : Rw} (hat : rowsL[k]? = some r) (h : ReOk k r.name r.form) (a b c n : Int) (W : World) : Calls Try.prog 13 #[.agg #[.string ⟨r.name.toArray⟩, .int .i64 a, .int .i64 b, .int .i64 c, .int .i64 n]] W fun e W' => e = .returned (encRes2 k a b c n) ∧ Below W.heap.size W W' := by
  have hE : RefEnv { i := fun m => if m = 0 then a else if m = 1 then b else if m = 2 then c else n, fb5 := rfFb5, fi5 := rfFi5, fi := rfFi } := ⟨rfl, rfl, rfl⟩
  refine contract (η := { i := fun m => if m = 0 then a else if m = 1 then b else if m = 2 then c else n, fb5 := rfFb5, fi5 := rfFi5, fi := rfFi }) in_plain in_follows (sumT_ok _ hE) (n := 300) (args := [.agg [.str (.lit r.name), .int .i64 (.var 0), .int .i64 (.var 1), .int .i64 (.var 2), .int .i64 (.var 3)]]) (args' := [.agg #[.string ⟨r.name.toArray⟩, .int .i64 a, .int .i64 b, .int .i64 c, .int .i64 n]])
    (.cons _ _ _ _ (.agg _ [.string ⟨r.name.toArray⟩, .int .i64 a, .int .i64 b, .int .i64 c, .int .i64 n] (.cons _ _ _ _ (.str (.lit r.name)) (.cons _ _ _ _ (.int _ (.var 0)) (.cons _ _ _ _ (.int _ (.var 1)) (.cons _ _ _ _ (.int _ (.var 2)) (.cons _ _ _ _ (.int _ (.var 3)) .nil)))))) .nil) facts_none ?_ W
  rw [h.out]
  have hm : r ∈ rowsL := List.mem_of_getElem? hat
  have e5 : rfFb5 50 (r.form : Int) a b c n = okF r.form a b c n := by simp [rfFb5]
  have e6 : rfFi5 60 (k : Int) a b c n = wordI r a b c n := by simp [rfFi5, hat]
  have hp : (B.fn5 50 (.lit r.form) (.var 0) (.var 1) (.var 2) (.var 3)).prop { i := fun m => if m = 0 then a else if m = 1 then b else if m = 2 then c else n, fb5 := rfFb5, fi5 := rfFi5, fi := rfFi } ↔ okF r.form a b c n = true := by
    show rfFb5 50 (r.form : Int) a b c n = true ↔ _
    rw [e5]
  have hd : (E.fn5 60 (.lit k) (.var 0) (.var 1) (.var 2) (.var 3)).den { i := fun m => if m = 0 then a else if m = 1 then b else if m = 2 then c else n, fb5 := rfFb5, fi5 := rfFi5, fi := rfFi } = wordI r a b c n := e6
  have hz : ∀ η : Env, E.den η (.lit 0) = 0 := fun _ => rfl
  simp only [reT, T.gives, hp, V.val, V.vals, hd, B.den, hz, encRes2, encI, encB, hat]
  refine ⟨fun h1 => ?_, fun h1 => ?_⟩
  · rw [wordI_enc hm h1, h1]; rfl
  · rw [show okF r.form a b c n = false by simpa using h1]; rfl
theorem bytes_of (s : ByteArray) : s = ⟨s.toList.toArray⟩ := (bytes_iff _ _).2 (by simp)
theorem row_get : ∀ {l : List Rw} {s : List UInt8}, (∃ r ∈ l, r.name = s) → ∃ r, l[rowOf l s]? = some r ∧ r.name = s
  | [], s, h => by obtain ⟨r, h, _⟩ := h; simp at h
  | q :: l, s, h => by
    unfold rowOf
    by_cases e : s = q.name
    · rw [if_pos e]; exact ⟨q, rfl, e.symm⟩
    · rw [if_neg e]
      obtain ⟨r, hr, hn⟩ := h
      rcases List.mem_cons.1 hr with rfl | hr
      · exact absurd hn.symm e
      · obtain ⟨r', h1, h2⟩ := row_get ⟨r, hr, hn⟩
        exact ⟨r', by simpa using h1, h2⟩
theorem row_no : ∀ {l : List Rw} {s : List UInt8}, (¬ ∃ r ∈ l, r.name = s) → l[rowOf l s]? = none
  | [], s, h => by simp
  | q :: l, s, h => by
    unfold rowOf
    by_cases e : s = q.name
    · exact absurd ⟨q, by simp, e.symm⟩ h
    · rw [if_neg e]
      have := row_no (l := l) (s := s) (fun ⟨r, hr, hn⟩ => h ⟨r, by simp [hr], hn⟩)
      simpa using this
theorem refenc_calls (s : ByteArray) (a b c n : Int) (W : World) : Calls Try.prog 13 #[.agg #[.string s, .int .i64 a, .int .i64 b, .int .i64 c, .int .i64 n]] W fun e W' => e = .returned (encRes2 (rowOf rowsL s.toList) a b c n) ∧ Below W.heap.size W W' := by
  by_cases hx : ∃ r ∈ rowsL, r.name = s.toList
  · obtain ⟨r, hat, hn⟩ := row_get hx
    have e : s = ⟨r.name.toArray⟩ := by rw [hn]; exact bytes_of s
    have := re_calls hat (re_all _ r hat) a b c n W
    rw [← e] at this
    exact this
  · have hE : RefEnv { i := fun m => if m = 0 then a else if m = 1 then b else if m = 2 then c else n, s := fun _ => s, fb5 := rfFb5, fi5 := rfFi5, fi := rfFi } := ⟨rfl, rfl, rfl⟩
    refine contract (η := { i := fun m => if m = 0 then a else if m = 1 then b else if m = 2 then c else n, s := fun _ => s, fb5 := rfFb5, fi5 := rfFi5, fi := rfFi }) in_plain in_follows (sumT_ok _ hE) (n := 300) (args := [.agg [.str (.var 0), .int .i64 (.var 0), .int .i64 (.var 1), .int .i64 (.var 2), .int .i64 (.var 3)]]) (args' := [.agg #[.string s, .int .i64 a, .int .i64 b, .int .i64 c, .int .i64 n]])
      (.cons _ _ _ _ (.agg _ [.string s, .int .i64 a, .int .i64 b, .int .i64 c, .int .i64 n] (.cons _ _ _ _ (.str (.var 0)) (.cons _ _ _ _ (.int _ (.var 0)) (.cons _ _ _ _ (.int _ (.var 1)) (.cons _ _ _ _ (.int _ (.var 2)) (.cons _ _ _ _ (.int _ (.var 3)) .nil)))))) .nil) (facts := noneF) ?_ ?_ W
    · intro p hp
      simp only [noneF, List.mem_map] at hp
      obtain ⟨r, hr, rfl⟩ := hp
      have q : (⟨r.name.toArray⟩ : ByteArray).toList = r.name := by simp
      simp only [B.den, S.den, q]
      exact beq_eq_false_iff_ne.2 (fun e => hx ⟨r, hr, e⟩)
    · rw [reN_eq]
      simp only [T.gives, V.val, V.vals, B.den, E.den, encRes2, encI, encB, row_no hx]; rfl
def renG : List V → Option V
  | [.agg [.str s, .int .i64 a, .int .i64 b, .int .i64 c, .int .i64 n]] => some (.tuple [.int .i64 (.fn5 1 (opI s) a b c n), .bool (.fn5 1 (opI s) a b c n)])
  | _ => none
def sumE : Summary := sumB.put 13 renG
theorem sumE_ok (η : Env) (h : InEnv η) : SumOk η Try.prog sumE := by
  refine SumOk.put (sumB_ok η h) ?_
  intro args v hv φ args' W ha
  unfold renG at hv
  split at hv
  · rename_i s a b c n
    simp only [Option.some.injEq] at hv; subst hv
    cases ha with | cons _ _ _ _ h1 t =>
    cases t with | nil =>
    cases h1 with | agg _ l hl =>
    cases hl with | cons _ _ _ _ g1 t =>
    cases t with | cons _ _ _ _ g2 t =>
    cases t with | cons _ _ _ _ g3 t =>
    cases t with | cons _ _ _ _ g4 t =>
    cases t with | cons _ _ _ _ g5 t =>
    cases t with | nil =>
    cases g1 with | str =>
    cases g2 with | int =>
    cases g3 with | int =>
    cases g4 with | int =>
    cases g5 with | int =>
    refine (refenc_calls (s.den η) (a.den η) (b.den η) (c.den η) (n.den η) W).mono ?_
    rintro ex W' ⟨rfl, hb⟩
    refine ⟨_, rfl, fun φ => V.val_ok _ _ ?_, hb⟩
    simp only [V.val, V.vals, E.den, B.den, h.fi5, h.fb5, inFi5, inFb5, opI_den h, if_true, encRes2, Int.toNat_natCast]; rfl
  · simp at hv
end Go.Proofs.Ytloihfdiabbcpaa.Sx
