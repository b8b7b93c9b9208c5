/- DigitsReads over the small heap. Own text of this session. -/
import Derived.Test.YtkcpcgdipmgeeaaDoorLTells
set_option linter.unusedVariables false
set_option linter.unusedSimpArgs false
set_option maxRecDepth 4000
set_option maxHeartbeats 4000000
namespace Go.Proofs.YtkcpcgdipmgeeaaDoor.C
open Go Go.RowKit Go.Proofs.YtkcpcgdipmgeeaaDoorA Go.Proofs.YtkcpcgdipmgeeaaDoor.Plain
variable {H : AH}
theorem told_uniq {l : List UInt8} {v v' : Value} (h : Told l v) (h' : Told l v') : v = v' := by
  rcases h with ⟨n, hn, rfl⟩ | ⟨hno, rfl⟩ <;> rcases h' with ⟨m, hm, rfl⟩ | ⟨hno', rfl⟩
  · rw [hn.uniq hm]
  · exact absurd hn (hno' n)
  · exact absurd hm (hno m)
  · rfl
theorem toldI_uniq {l : List UInt8} {v v' : Value} (h : ToldI l v) (h' : ToldI l v') : v = v' := by
  rcases h with ⟨n, hn, rfl⟩ | ⟨hno, rfl⟩ <;> rcases h' with ⟨m, hm, rfl⟩ | ⟨hno', rfl⟩
  · rw [isI_uniq hn hm]
  · exact absurd hn (hno' n)
  · exact absurd hm (hno m)
  · rfl
theorem digitsReads_run {s : ByteArray} (hg : HasG gs H) (hn : nG ≤ H.next) : CallR cx 5 #[.string s] H (fun v _ => v = .bool true) := by
  rw [str_eta s]
  generalize s.data.toList = l
  refine wk5 (by simp) ?_
  by_cases h200 : 200 < (l.length : Int)
  · simp [c5, h200]
    refine callV_R cba (alive_run hg) ?_
    rintro _ _ ⟨rfl, _⟩
    simp
  unfold c5
  refine aw_cut (fun s => s.env 0 = .string (str l) ∧ s.ds = [] ∧ s.H = H) (by simp) ?_
  rintro ⟨env, H, ds⟩ ⟨e0, eds, rfl⟩
  simp only at e0 eds
  refine aw_cut (fun s => s.env 0 = .string (str l) ∧ s.ds = [] ∧ s.H = H) (by simp [e0, eds, h200]) ?_
  rintro ⟨env, H, ds⟩ ⟨e0, eds, rfl⟩
  simp only at e0 eds
  refine aw_cut (fun s => s.env 0 = .string (str l) ∧ s.ds = [] ∧ s.H = H ∧ ∃ n b, s.env 3 = .int .u64 n ∧ s.env 4 = .bool b ∧ Told l (.tuple #[.int .u64 n, .bool b])) ?_ ?_
  · simp [e0, eds]
    refine callV_R cb14 read_run ?_
    rintro v1 H1 ⟨rfl, hv1⟩
    have hv1 : Told l v1 := hv1
    have hsh : ∃ n b, v1 = .tuple #[.int .u64 n, .bool b] := by rcases hv1 with ⟨n, _, rfl⟩ | ⟨_, rfl⟩ <;> exact ⟨_, _, rfl⟩
    obtain ⟨n1, b1, rfl⟩ := hsh
    simp [e0, eds]
    exact hv1
  clear e0 eds
  rintro ⟨env, H, ds⟩ ⟨e0, eds, rfl, n1, b1, e3, e4, hv1⟩
  simp only at e0 eds e3 e4
  refine aw_cut (fun s => s.env 0 = .string (str l) ∧ s.ds = [] ∧ HasG gs s.H ∧ nG ≤ s.H.next ∧ s.env 3 = .int .u64 n1 ∧ s.env 4 = .bool b1 ∧ s.env 5 = .int .u64 n1 ∧ s.env 6 = .bool b1) ?_ ?_
  · simp [e0, eds, e3, e4]
    refine callV_R cb18 rread_run ?_
    rintro v2 H2 ⟨hf2, hv2⟩
    obtain rfl := told_uniq hv1 hv2
    simp [e0, eds, e3, e4]
    exact ⟨hg.fresh gs_lt hn hf2, Nat.le_trans hn hf2.1⟩
  clear e0 eds e3 e4 hg hn
  rintro ⟨env, H, ds⟩ ⟨e0, eds, hg, hn, e3, e4, e5, e6⟩
  simp only at e0 eds hg hn e3 e4 e5 e6
  refine aw_cut (fun s => s.env 0 = .string (str l) ∧ s.ds = [] ∧ s.H = H ∧ s.env 3 = .int .u64 n1 ∧ s.env 4 = .bool b1 ∧ s.env 5 = .int .u64 n1 ∧ s.env 6 = .bool b1 ∧ ∃ n b, s.env 7 = i64 n ∧ s.env 8 = .bool b ∧ ToldI l (.tuple #[i64 n, .bool b])) ?_ ?_
  · simp [e0, eds, e3, e4, e5, e6]
    refine callV_R cb15 readInt_run ?_
    rintro v3 H2 ⟨rfl, hv3⟩
    have hsh : ∃ n b, v3 = .tuple #[i64 n, .bool b] := by rcases hv3 with ⟨n, _, rfl⟩ | ⟨_, rfl⟩ <;> exact ⟨_, _, rfl⟩
    obtain ⟨n3, b3, rfl⟩ := hsh
    simp [e0, eds, e3, e4, e5, e6]
    exact hv3
  clear e0 eds e3 e4 e5 e6
  rintro ⟨env, H, ds⟩ ⟨e0, eds, rfl, e3, e4, e5, e6, n3, b3, e7, e8, hv3⟩
  simp only at e0 eds e3 e4 e5 e6 e7 e8
  refine aw_cut (fun s => s.env 0 = .string (str l) ∧ s.ds = [] ∧ HasG gs s.H ∧ nG ≤ s.H.next ∧ s.env 3 = .int .u64 n1 ∧ s.env 4 = .bool b1 ∧ s.env 5 = .int .u64 n1 ∧ s.env 6 = .bool b1 ∧ s.env 7 = i64 n3 ∧ s.env 8 = .bool b3 ∧ s.env 9 = i64 n3 ∧ s.env 10 = .bool b3) ?_ ?_
  · simp [e0, eds, e3, e4, e5, e6, e7, e8]
    refine callV_R cb19 rreadInt_run ?_
    rintro v4 H4 ⟨hf4, hv4⟩
    obtain rfl := toldI_uniq hv3 hv4
    simp [e0, eds, e3, e4, e5, e6, e7, e8]
    exact ⟨hg.fresh gs_lt hn hf4, Nat.le_trans hn hf4.1⟩
  clear e0 eds e3 e4 e5 e6 e7 e8 hg hn
  rintro ⟨env, H, ds⟩ ⟨e0, eds, hg, hn, e3, e4, e5, e6, e7, e8, e9, e10⟩
  simp only at e0 eds hg hn e3 e4 e5 e6 e7 e8 e9 e10
  refine aw_cut (fun s => s.env 0 = .string (str l) ∧ s.ds = [] ∧ s.H = H ∧ s.env 3 = .int .u64 n1 ∧ s.env 4 = .bool b1 ∧ s.env 7 = i64 n3 ∧ s.env 8 = .bool b3) ?_ ?_
  · simp [e0, eds, e3, e4, e5, e6, e7, e8, e9, e10]
  clear e0 eds e3 e4 e5 e6 e7 e8 e9 e10
  rintro ⟨env, H, ds⟩ ⟨e0, eds, rfl, e3, e4, e7, e8⟩
  simp only at e0 eds e3 e4 e7 e8
  have hI : b3 = true → IsI l n3 := by
    rintro rfl
    rcases hv3 with ⟨n, hn, e⟩ | ⟨_, e⟩
    · simp at e; subst e; exact hn
    · simp at e
  have hN : b1 = true → ∃ n : Nat, n1 = n ∧ Is l n := by
    rintro rfl
    rcases hv1 with ⟨n, hn, e⟩ | ⟨_, e⟩
    · simp at e; exact ⟨n, e, hn⟩
    · simp at e
  cases b1 with
  | false =>
    cases b3 with
    | false =>
      simp [e0, e3, e4, e7, e8]
      refine callV_R cba (alive_run hg) ?_
      rintro _ _ ⟨rfl, _⟩
      simp [eds]
    | true =>
      obtain ⟨h1, h2⟩ := hI rfl
      simp [e0, e3, e4, e7, e8]
      refine callV_R cb13 (int_run h1) ?_
      rintro v5 H5 ⟨hv5, hf5⟩
      rw [← h2] at hv5
      subst hv5
      simp [e0, streq]
      refine callV_R cba (alive_run (hg.fresh gs_lt hn hf5)) ?_
      rintro _ _ ⟨rfl, _⟩
      simp [eds]
  | true =>
    obtain ⟨n, rfl, hn1⟩ := hN rfl
    simp [e0, e3, e4]
    refine callV_R cb12 (print_run hn1.1) ?_
    rintro v5 H5 ⟨hv5, hf5⟩
    rw [← hn1.2] at hv5
    subst hv5
    have hg5 := hg.fresh gs_lt hn hf5
    have hn5 := Nat.le_trans hn hf5.1
    cases b3 with
    | false =>
      simp [e0, e8, streq]
      refine callV_R cba (alive_run hg5) ?_
      rintro _ _ ⟨rfl, _⟩
      simp [eds]
    | true =>
      obtain ⟨h1, h2⟩ := hI rfl
      simp [e0, e7, e8, streq]
      refine callV_R cb13 (int_run h1) ?_
      rintro v6 H6 ⟨hv6, hf6⟩
      rw [← h2] at hv6
      subst hv6
      simp [e0, streq]
      refine callV_R cba (alive_run (hg5.fresh gs_lt hn5 hf6)) ?_
      rintro _ _ ⟨rfl, _⟩
      simp [eds]
end Go.Proofs.YtkcpcgdipmgeeaaDoor.C
