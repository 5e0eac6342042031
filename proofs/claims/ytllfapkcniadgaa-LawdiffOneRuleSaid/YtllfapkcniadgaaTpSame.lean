/- Contracts: slices held against each other, slices cloned. -/
import Derived.Test.YtllfapkcniadgaaTpTab
import Derived.Test.YtllfapkcniadgaaAbApi
set_option linter.unusedVariables false
namespace Go.Proofs.Ytllfapkcniadgaa
open Go Go.Ab

theorem c_same_Strings (xs ys : List BA) : Go.Ab.Fn Try.prog 78 [.c (.slice 1 (xs.map cStr)), .c (.slice 1 (ys.map cStr))] (resB (decide (xs = ys))) [] := by
  refine Go.Ab.Fn.intro htab hm Try.func78 rfl Try.call78 (by kernel_rfl) 32 Try.ntmps78 rfl (fun hr => ?_)
  conv => whnf
  refine condP_intro (fun h => ?_) (fun h => ?_)
  · conv => whnf
    refine And.intro ?_ trivial
    have : xs ≠ ys := fun e => by subst e; simp at h
    show D.bool false = _
    simp [this]
  · conv => whnf
    have hlen : xs.length = ys.length := by simp at h; omega
    refine LoopP_intro (fun i : Nat => i ≤ xs.length ∧ xs.take i = ys.take i) (fun i => ⟨32, [(0, vDc (.slice 1 (xs.map cStr))), (1, vDc (.slice 1 (ys.map cStr))), (5, vDc (.int .i64 i))], []⟩) (fun i => xs.length - i) 0 (by simp) ?_ (fun i ⟨hi, he⟩ => ?_)
    · exact Le.sub rfl ⟨rfl, rfl, rfl⟩ trivial
    · conv => whnf
      refine condP_intro (fun h2 => ?_) (fun h2 => ?_)
      · have hix : i < xs.length := by simpa using h2
        have hiy : i < ys.length := by omega
        conv => whnf
        refine condP_intro (fun h3 => ?_) (fun h3 => ?_)
        · conv => whnf
          refine ⟨_, ⟨Int.natCast_nonneg _, cget hix⟩, ?_⟩
          conv => whnf
          refine ⟨_, ⟨Int.natCast_nonneg _, cget hiy⟩, ?_⟩
          conv => whnf
          refine condP_intro (fun h4 => ?_) (fun h4 => ?_)
          · conv => whnf
            refine And.intro ?_ trivial
            have : xs ≠ ys := fun e => by subst e; simp at h4
            show D.bool false = _
            simp [this]
          · conv => whnf
            exact ⟨i + 1, ⟨hix, take_succ_eq hix hiy he (x_str h4)⟩, Le.sub rfl ⟨rfl, rfl, inc64 hix (by simpa using hr.1.len)⟩ trivial, by omega⟩
        · simp at h3; omega
      · conv => whnf
        refine And.intro ?_ trivial
        have := eq_of_take hlen (by simp at h2; omega) he
        show D.bool true = _
        simp [this]

theorem c_same_Nodes (xs ys : List MNode) : Go.Ab.Fn Try.prog 31 [.c (.slice 2 (xs.map cNode)), .c (.slice 2 (ys.map cNode))] (resB (decide (xs = ys))) [] := by
  refine Go.Ab.Fn.intro htab hm Try.func31 rfl Try.call31 (by kernel_rfl) 32 Try.ntmps31 rfl (fun hr => ?_)
  conv => whnf
  refine condP_intro (fun h => ?_) (fun h => ?_)
  · conv => whnf
    refine And.intro ?_ trivial
    have : xs ≠ ys := fun e => by subst e; simp at h
    show D.bool false = _
    simp [this]
  · conv => whnf
    have hlen : xs.length = ys.length := by simp at h; omega
    refine LoopP_intro (fun i : Nat => i ≤ xs.length ∧ xs.take i = ys.take i) (fun i => ⟨32, [(0, vDc (.slice 2 (xs.map cNode))), (1, vDc (.slice 2 (ys.map cNode))), (5, vDc (.int .i64 i))], []⟩) (fun i => xs.length - i) 0 (by simp) ?_ (fun i ⟨hi, he⟩ => ?_)
    · exact Le.sub rfl ⟨rfl, rfl, rfl⟩ trivial
    · conv => whnf
      refine condP_intro (fun h2 => ?_) (fun h2 => ?_)
      · have hix : i < xs.length := by simpa using h2
        have hiy : i < ys.length := by omega
        conv => whnf
        refine condP_intro (fun h3 => ?_) (fun h3 => ?_)
        · conv => whnf
          refine ⟨_, ⟨Int.natCast_nonneg _, cget hix⟩, ?_⟩
          conv => whnf
          refine ⟨_, ⟨Int.natCast_nonneg _, cget hiy⟩, ?_⟩
          conv => whnf
          refine condP_intro (fun h4 => ?_) (fun h4 => ?_)
          · conv => whnf
            refine And.intro ?_ trivial
            have : xs ≠ ys := fun e => by subst e; simp at h4
            show D.bool false = _
            simp [this]
          · conv => whnf
            exact ⟨i + 1, ⟨hix, take_succ_eq hix hiy he (x_node h4)⟩, Le.sub rfl ⟨rfl, rfl, inc64 hix (by simpa using hr.1.len)⟩ trivial, by omega⟩
        · simp at h3; omega
      · conv => whnf
        refine And.intro ?_ trivial
        have := eq_of_take hlen (by simp at h2; omega) he
        show D.bool true = _
        simp [this]

theorem c_same_Changes (xs ys : List MChange) : Go.Ab.Fn Try.prog 24 [.c (.slice 3 (xs.map cChange)), .c (.slice 3 (ys.map cChange))] (resB (decide (xs = ys))) [] := by
  refine Go.Ab.Fn.intro htab hm Try.func24 rfl Try.call24 (by kernel_rfl) 32 Try.ntmps24 rfl (fun hr => ?_)
  conv => whnf
  refine condP_intro (fun h => ?_) (fun h => ?_)
  · conv => whnf
    refine And.intro ?_ trivial
    have : xs ≠ ys := fun e => by subst e; simp at h
    show D.bool false = _
    simp [this]
  · conv => whnf
    have hlen : xs.length = ys.length := by simp at h; omega
    refine LoopP_intro (fun i : Nat => i ≤ xs.length ∧ xs.take i = ys.take i) (fun i => ⟨32, [(0, vDc (.slice 3 (xs.map cChange))), (1, vDc (.slice 3 (ys.map cChange))), (5, vDc (.int .i64 i))], []⟩) (fun i => xs.length - i) 0 (by simp) ?_ (fun i ⟨hi, he⟩ => ?_)
    · exact Le.sub rfl ⟨rfl, rfl, rfl⟩ trivial
    · conv => whnf
      refine condP_intro (fun h2 => ?_) (fun h2 => ?_)
      · have hix : i < xs.length := by simpa using h2
        have hiy : i < ys.length := by omega
        conv => whnf
        refine condP_intro (fun h3 => ?_) (fun h3 => ?_)
        · conv => whnf
          refine ⟨_, ⟨Int.natCast_nonneg _, cget hix⟩, ?_⟩
          conv => whnf
          refine ⟨_, ⟨Int.natCast_nonneg _, cget hiy⟩, ?_⟩
          conv => whnf
          refine condP_intro (fun h4 => ?_) (fun h4 => ?_)
          · conv => whnf
            refine And.intro ?_ trivial
            have : xs ≠ ys := fun e => by subst e; simp at h4
            show D.bool false = _
            simp [this]
          · conv => whnf
            exact ⟨i + 1, ⟨hix, take_succ_eq hix hiy he (x_change h4)⟩, Le.sub rfl ⟨rfl, rfl, inc64 hix (by simpa using hr.1.len)⟩ trivial, by omega⟩
        · simp at h3; omega
      · conv => whnf
        refine And.intro ?_ trivial
        have := eq_of_take hlen (by simp at h2; omega) he
        show D.bool true = _
        simp [this]

theorem c_same_Fields (xs ys : List MField) : Go.Ab.Fn Try.prog 46 [.c (.slice 3 (xs.map cField)), .c (.slice 3 (ys.map cField))] (resB (decide (xs = ys))) [] := by
  refine Go.Ab.Fn.intro htab hm Try.func46 rfl Try.call46 (by kernel_rfl) 32 Try.ntmps46 rfl (fun hr => ?_)
  conv => whnf
  refine condP_intro (fun h => ?_) (fun h => ?_)
  · conv => whnf
    refine And.intro ?_ trivial
    have : xs ≠ ys := fun e => by subst e; simp at h
    show D.bool false = _
    simp [this]
  · conv => whnf
    have hlen : xs.length = ys.length := by simp at h; omega
    refine LoopP_intro (fun i : Nat => i ≤ xs.length ∧ xs.take i = ys.take i) (fun i => ⟨32, [(0, vDc (.slice 3 (xs.map cField))), (1, vDc (.slice 3 (ys.map cField))), (5, vDc (.int .i64 i))], []⟩) (fun i => xs.length - i) 0 (by simp) ?_ (fun i ⟨hi, he⟩ => ?_)
    · exact Le.sub rfl ⟨rfl, rfl, rfl⟩ trivial
    · conv => whnf
      refine condP_intro (fun h2 => ?_) (fun h2 => ?_)
      · have hix : i < xs.length := by simpa using h2
        have hiy : i < ys.length := by omega
        conv => whnf
        refine condP_intro (fun h3 => ?_) (fun h3 => ?_)
        · conv => whnf
          refine ⟨_, ⟨Int.natCast_nonneg _, cget hix⟩, ?_⟩
          conv => whnf
          refine ⟨_, ⟨Int.natCast_nonneg _, cget hiy⟩, ?_⟩
          conv => whnf
          refine condP_intro (fun h4 => ?_) (fun h4 => ?_)
          · conv => whnf
            refine And.intro ?_ trivial
            have : xs ≠ ys := fun e => by subst e; simp at h4
            show D.bool false = _
            simp [this]
          · conv => whnf
            exact ⟨i + 1, ⟨hix, take_succ_eq hix hiy he (x_field h4)⟩, Le.sub rfl ⟨rfl, rfl, inc64 hix (by simpa using hr.1.len)⟩ trivial, by omega⟩
        · simp at h3; omega
      · conv => whnf
        refine And.intro ?_ trivial
        have := eq_of_take hlen (by simp at h2; omega) he
        show D.bool true = _
        simp [this]

theorem c_same_Rows (xs ys : List MRow) : Go.Ab.Fn Try.prog 79 [.c (.slice 5 (xs.map cRow)), .c (.slice 5 (ys.map cRow))] (resB (decide (xs = ys))) [] := by
  refine Go.Ab.Fn.intro htab hm Try.func79 rfl Try.call79 (by kernel_rfl) 32 Try.ntmps79 rfl (fun hr => ?_)
  conv => whnf
  refine condP_intro (fun h => ?_) (fun h => ?_)
  · conv => whnf
    refine And.intro ?_ trivial
    have : xs ≠ ys := fun e => by subst e; simp at h
    show D.bool false = _
    simp [this]
  · conv => whnf
    have hlen : xs.length = ys.length := by simp at h; omega
    refine LoopP_intro (fun i : Nat => i ≤ xs.length ∧ xs.take i = ys.take i) (fun i => ⟨32, [(0, vDc (.slice 5 (xs.map cRow))), (1, vDc (.slice 5 (ys.map cRow))), (5, vDc (.int .i64 i))], []⟩) (fun i => xs.length - i) 0 (by simp) ?_ (fun i ⟨hi, he⟩ => ?_)
    · exact Le.sub rfl ⟨rfl, rfl, rfl⟩ trivial
    · conv => whnf
      refine condP_intro (fun h2 => ?_) (fun h2 => ?_)
      · have hix : i < xs.length := by simpa using h2
        have hiy : i < ys.length := by omega
        conv => whnf
        refine condP_intro (fun h3 => ?_) (fun h3 => ?_)
        · conv => whnf
          refine ⟨_, ⟨Int.natCast_nonneg _, cget hix⟩, ?_⟩
          conv => whnf
          refine ⟨_, ⟨Int.natCast_nonneg _, cget hiy⟩, ?_⟩
          conv => whnf
          refine condP_intro (fun h4 => ?_) (fun h4 => ?_)
          · conv => whnf
            refine And.intro ?_ trivial
            have : xs ≠ ys := fun e => by subst e; simp at h4
            show D.bool false = _
            simp [this]
          · conv => whnf
            exact ⟨i + 1, ⟨hix, take_succ_eq hix hiy he (x_row h4)⟩, Le.sub rfl ⟨rfl, rfl, inc64 hix (by simpa using hr.1.len)⟩ trivial, by omega⟩
        · simp at h3; omega
      · conv => whnf
        refine And.intro ?_ trivial
        have := eq_of_take hlen (by simp at h2; omega) he
        show D.bool true = _
        simp [this]

theorem c_same_Enum (x y : MEnum) : Go.Ab.Fn Try.prog 64 [.agg (cEnum x), .agg (cEnum y)] (resB (decide (x = y))) [] := by
  refine Go.Ab.Fn.intro htab hm Try.func64 rfl Try.call64 (by kernel_rfl) 17 Try.ntmps64 rfl (fun hr => ?_)
  conv => whnf
  refine condP_intro (fun h => ?_) (fun h => ?_)
  · conv => whnf
    refine CallK_intro (c_same_Strings x.members y.members) (.inl rfl) ?_
    conv => whnf
    refine And.intro ?_ trivial
    show D.bool _ = D.bool _
    cases x; cases y; simp at h; simp [h]
  · conv => whnf
    refine And.intro ?_ trivial
    show D.bool _ = D.bool _
    cases x; cases y; simp at h; simp [h]

theorem c_same_Table (x y : MTable) : Go.Ab.Fn Try.prog 65 [.agg (cTable x), .agg (cTable y)] (resB (decide (x = y))) [] := by
  refine Go.Ab.Fn.intro htab hm Try.func65 rfl Try.call65 (by kernel_rfl) 31 Try.ntmps65 rfl (fun hr => ?_)
  have key : ∀ b, b = (decide (x.name = y.name) && (decide (x.key = y.key) && (decide (x.val = y.val) && decide (x.rows = y.rows)))) → D.bool b = D.bool (decide (x = y)) := by
    intro b hb; subst hb; cases x; cases y; simp
  conv => whnf
  refine condP_intro (fun h => ?_) (fun h => ?_)
  · conv => whnf
    refine condP_intro (fun h2 => ?_) (fun h2 => ?_)
    · conv => whnf
      refine condP_intro (fun h3 => ?_) (fun h3 => ?_)
      · conv => whnf
        refine CallK_intro (c_same_Rows x.rows y.rows) (.inl rfl) ?_
        conv => whnf
        refine And.intro (key _ ?_) trivial
        have e2 : x.key = y.key := x_ty (by simpa using h2)
        have e3 : x.val = y.val := x_ty (by simpa using h3)
        simp at h
        simp [h, e2, e3]
      · conv => whnf
        refine And.intro (key _ ?_) trivial
        have e3 : x.val ≠ y.val := fun e => by rw [e] at h3; simp at h3
        simp [e3]
    · conv => whnf
      refine And.intro (key _ ?_) trivial
      have e2 : x.key ≠ y.key := fun e => by rw [e] at h2; simp at h2
      simp [e2]
  · conv => whnf
    refine And.intro (key _ ?_) trivial
    simp at h
    simp [h]

theorem c_same_Enums (xs ys : List MEnum) : Go.Ab.Fn Try.prog 44 [.c (.slice 2 (xs.map cEnum)), .c (.slice 2 (ys.map cEnum))] (resB (decide (xs = ys))) [] := by
  refine Go.Ab.Fn.intro htab hm Try.func44 rfl Try.call44 (by kernel_rfl) 33 Try.ntmps44 rfl (fun hr => ?_)
  conv => whnf
  refine condP_intro (fun h => ?_) (fun h => ?_)
  · conv => whnf
    refine And.intro ?_ trivial
    have : xs ≠ ys := fun e => by subst e; simp at h
    show D.bool false = _
    simp [this]
  · conv => whnf
    have hlen : xs.length = ys.length := by simp at h; omega
    refine LoopP_intro (fun i : Nat => i ≤ xs.length ∧ xs.take i = ys.take i) (fun i => ⟨33, [(0, vDc (.slice 2 (xs.map cEnum))), (1, vDc (.slice 2 (ys.map cEnum))), (5, vDc (.int .i64 i))], []⟩) (fun i => xs.length - i) 0 (by simp) ?_ (fun i ⟨hi, he⟩ => ?_)
    · exact Le.sub rfl ⟨rfl, rfl, rfl⟩ trivial
    · conv => whnf
      refine condP_intro (fun h2 => ?_) (fun h2 => ?_)
      · have hix : i < xs.length := by simpa using h2
        have hiy : i < ys.length := by omega
        conv => whnf
        refine condP_intro (fun h3 => ?_) (fun h3 => ?_)
        · conv => whnf
          refine ⟨_, ⟨Int.natCast_nonneg _, cget hix⟩, ?_⟩
          conv => whnf
          refine ⟨_, ⟨Int.natCast_nonneg _, cget hiy⟩, ?_⟩
          conv => whnf
          refine CallK_intro (c_same_Enum xs[i] ys[i]) (.inl rfl) ?_
          conv => whnf
          refine condP_intro (fun h4 => ?_) (fun h4 => ?_)
          · conv => whnf
            refine And.intro ?_ trivial
            have : xs ≠ ys := fun e => by subst e; simp at h4
            show D.bool false = _
            simp [this]
          · conv => whnf
            exact ⟨i + 1, ⟨hix, take_succ_eq hix hiy he (by simpa using h4)⟩, Le.sub rfl ⟨rfl, rfl, inc64 hix (by simpa using hr.1.len)⟩ trivial, by omega⟩
        · simp at h3; omega
      · conv => whnf
        refine And.intro ?_ trivial
        have := eq_of_take hlen (by simp at h2; omega) he
        show D.bool true = _
        simp [this]

theorem c_same_Tables (xs ys : List MTable) : Go.Ab.Fn Try.prog 45 [.c (.slice 6 (xs.map cTable)), .c (.slice 6 (ys.map cTable))] (resB (decide (xs = ys))) [] := by
  refine Go.Ab.Fn.intro htab hm Try.func45 rfl Try.call45 (by kernel_rfl) 33 Try.ntmps45 rfl (fun hr => ?_)
  conv => whnf
  refine condP_intro (fun h => ?_) (fun h => ?_)
  · conv => whnf
    refine And.intro ?_ trivial
    have : xs ≠ ys := fun e => by subst e; simp at h
    show D.bool false = _
    simp [this]
  · conv => whnf
    have hlen : xs.length = ys.length := by simp at h; omega
    refine LoopP_intro (fun i : Nat => i ≤ xs.length ∧ xs.take i = ys.take i) (fun i => ⟨33, [(0, vDc (.slice 6 (xs.map cTable))), (1, vDc (.slice 6 (ys.map cTable))), (5, vDc (.int .i64 i))], []⟩) (fun i => xs.length - i) 0 (by simp) ?_ (fun i ⟨hi, he⟩ => ?_)
    · exact Le.sub rfl ⟨rfl, rfl, rfl⟩ trivial
    · conv => whnf
      refine condP_intro (fun h2 => ?_) (fun h2 => ?_)
      · have hix : i < xs.length := by simpa using h2
        have hiy : i < ys.length := by omega
        conv => whnf
        refine condP_intro (fun h3 => ?_) (fun h3 => ?_)
        · conv => whnf
          refine ⟨_, ⟨Int.natCast_nonneg _, cget hix⟩, ?_⟩
          conv => whnf
          refine ⟨_, ⟨Int.natCast_nonneg _, cget hiy⟩, ?_⟩
          conv => whnf
          refine CallK_intro (c_same_Table xs[i] ys[i]) (.inl rfl) ?_
          conv => whnf
          refine condP_intro (fun h4 => ?_) (fun h4 => ?_)
          · conv => whnf
            refine And.intro ?_ trivial
            have : xs ≠ ys := fun e => by subst e; simp at h4
            show D.bool false = _
            simp [this]
          · conv => whnf
            exact ⟨i + 1, ⟨hix, take_succ_eq hix hiy he (by simpa using h4)⟩, Le.sub rfl ⟨rfl, rfl, inc64 hix (by simpa using hr.1.len)⟩ trivial, by omega⟩
        · simp at h3; omega
      · conv => whnf
        refine And.intro ?_ trivial
        have := eq_of_take hlen (by simp at h2; omega) he
        show D.bool true = _
        simp [this]

theorem c_eq_str (xs ys : List BA) : Go.Ab.Fn Try.prog 69 [.c (.slice 1 (xs.map cStr)), .c (.slice 1 (ys.map cStr))] (resB (decide (xs = ys))) [] := by
  refine Go.Ab.Fn.intro htab hm Try.func69 rfl Try.call69 (by kernel_rfl) 26 Try.ntmps69 rfl (fun hr => ?_)
  conv => whnf
  refine condP_intro (fun h => ?_) (fun h => ?_)
  · conv => whnf
    refine And.intro ?_ trivial
    have : xs ≠ ys := fun e => by subst e; simp at h
    show D.bool false = _
    simp [this]
  · conv => whnf
    have hlen : xs.length = ys.length := by simp at h; omega
    refine LoopP_intro (fun i : Nat => i ≤ xs.length ∧ xs.take i = ys.take i) (fun i => ⟨26, [(0, vDc (.slice 1 (xs.map cStr))), (1, vDc (.slice 1 (ys.map cStr))), (12, vDc (.int .i64 xs.length)), (13, vDc (.int .i64 i))], []⟩) (fun i => xs.length - i) 0 (by simp) ?_ (fun i ⟨hi, he⟩ => ?_)
    · refine Le.sub rfl ⟨rfl, rfl, ?_, rfl⟩ trivial
      show D.int _ _ = D.int _ _
      simp
    · conv => whnf
      refine condP_intro (fun h2 => ?_) (fun h2 => ?_)
      · have hix : i < xs.length := by simpa using h2
        have hiy : i < ys.length := by omega
        conv => whnf
        refine ⟨_, ⟨Int.natCast_nonneg _, cget hix⟩, ?_⟩
        conv => whnf
        refine ⟨_, ⟨Int.natCast_nonneg _, cget hiy⟩, ?_⟩
        conv => whnf
        refine condP_intro (fun h4 => ?_) (fun h4 => ?_)
        · conv => whnf
          refine And.intro ?_ trivial
          have : xs ≠ ys := fun e => by subst e; simp at h4
          show D.bool false = _
          simp [this]
        · conv => whnf
          exact ⟨i + 1, ⟨hix, take_succ_eq hix hiy he (x_str h4)⟩, Le.sub rfl ⟨rfl, rfl, rfl, inc64 hix (by simpa using hr.1.len)⟩ trivial, by omega⟩
      · conv => whnf
        refine And.intro ?_ trivial
        have := eq_of_take hlen (by simp at h2; omega) he
        show D.bool true = _
        simp [this]

theorem c_eq_row (xs ys : List MRow) : Go.Ab.Fn Try.prog 70 [.c (.slice 5 (xs.map cRow)), .c (.slice 5 (ys.map cRow))] (resB (decide (xs = ys))) [] := by
  refine Go.Ab.Fn.intro htab hm Try.func70 rfl Try.call70 (by kernel_rfl) 26 Try.ntmps70 rfl (fun hr => ?_)
  conv => whnf
  refine condP_intro (fun h => ?_) (fun h => ?_)
  · conv => whnf
    refine And.intro ?_ trivial
    have : xs ≠ ys := fun e => by subst e; simp at h
    show D.bool false = _
    simp [this]
  · conv => whnf
    have hlen : xs.length = ys.length := by simp at h; omega
    refine LoopP_intro (fun i : Nat => i ≤ xs.length ∧ xs.take i = ys.take i) (fun i => ⟨26, [(0, vDc (.slice 5 (xs.map cRow))), (1, vDc (.slice 5 (ys.map cRow))), (12, vDc (.int .i64 xs.length)), (13, vDc (.int .i64 i))], []⟩) (fun i => xs.length - i) 0 (by simp) ?_ (fun i ⟨hi, he⟩ => ?_)
    · refine Le.sub rfl ⟨rfl, rfl, ?_, rfl⟩ trivial
      show D.int _ _ = D.int _ _
      simp
    · conv => whnf
      refine condP_intro (fun h2 => ?_) (fun h2 => ?_)
      · have hix : i < xs.length := by simpa using h2
        have hiy : i < ys.length := by omega
        conv => whnf
        refine ⟨_, ⟨Int.natCast_nonneg _, cget hix⟩, ?_⟩
        conv => whnf
        refine ⟨_, ⟨Int.natCast_nonneg _, cget hiy⟩, ?_⟩
        conv => whnf
        refine condP_intro (fun h4 => ?_) (fun h4 => ?_)
        · conv => whnf
          refine And.intro ?_ trivial
          have : xs ≠ ys := fun e => by subst e; simp at h4
          show D.bool false = _
          simp [this]
        · conv => whnf
          exact ⟨i + 1, ⟨hix, take_succ_eq hix hiy he (x_row h4)⟩, Le.sub rfl ⟨rfl, rfl, rfl, inc64 hix (by simpa using hr.1.len)⟩ trivial, by omega⟩
      · conv => whnf
        refine And.intro ?_ trivial
        have := eq_of_take hlen (by simp at h2; omega) he
        show D.bool true = _
        simp [this]

theorem c_eq_field (xs ys : List MField) : Go.Ab.Fn Try.prog 71 [.c (.slice 3 (xs.map cField)), .c (.slice 3 (ys.map cField))] (resB (decide (xs = ys))) [] := by
  refine Go.Ab.Fn.intro htab hm Try.func71 rfl Try.call71 (by kernel_rfl) 26 Try.ntmps71 rfl (fun hr => ?_)
  conv => whnf
  refine condP_intro (fun h => ?_) (fun h => ?_)
  · conv => whnf
    refine And.intro ?_ trivial
    have : xs ≠ ys := fun e => by subst e; simp at h
    show D.bool false = _
    simp [this]
  · conv => whnf
    have hlen : xs.length = ys.length := by simp at h; omega
    refine LoopP_intro (fun i : Nat => i ≤ xs.length ∧ xs.take i = ys.take i) (fun i => ⟨26, [(0, vDc (.slice 3 (xs.map cField))), (1, vDc (.slice 3 (ys.map cField))), (12, vDc (.int .i64 xs.length)), (13, vDc (.int .i64 i))], []⟩) (fun i => xs.length - i) 0 (by simp) ?_ (fun i ⟨hi, he⟩ => ?_)
    · refine Le.sub rfl ⟨rfl, rfl, ?_, rfl⟩ trivial
      show D.int _ _ = D.int _ _
      simp
    · conv => whnf
      refine condP_intro (fun h2 => ?_) (fun h2 => ?_)
      · have hix : i < xs.length := by simpa using h2
        have hiy : i < ys.length := by omega
        conv => whnf
        refine ⟨_, ⟨Int.natCast_nonneg _, cget hix⟩, ?_⟩
        conv => whnf
        refine ⟨_, ⟨Int.natCast_nonneg _, cget hiy⟩, ?_⟩
        conv => whnf
        refine condP_intro (fun h4 => ?_) (fun h4 => ?_)
        · conv => whnf
          refine And.intro ?_ trivial
          have : xs ≠ ys := fun e => by subst e; simp at h4
          show D.bool false = _
          simp [this]
        · conv => whnf
          exact ⟨i + 1, ⟨hix, take_succ_eq hix hiy he (x_field h4)⟩, Le.sub rfl ⟨rfl, rfl, rfl, inc64 hix (by simpa using hr.1.len)⟩ trivial, by omega⟩
      · conv => whnf
        refine And.intro ?_ trivial
        have := eq_of_take hlen (by simp at h2; omega) he
        show D.bool true = _
        simp [this]

theorem c_eq_node (xs ys : List MNode) : Go.Ab.Fn Try.prog 40 [.c (.slice 2 (xs.map cNode)), .c (.slice 2 (ys.map cNode))] (resB (decide (xs = ys))) [] := by
  refine Go.Ab.Fn.intro htab hm Try.func40 rfl Try.call40 (by kernel_rfl) 26 Try.ntmps40 rfl (fun hr => ?_)
  conv => whnf
  refine condP_intro (fun h => ?_) (fun h => ?_)
  · conv => whnf
    refine And.intro ?_ trivial
    have : xs ≠ ys := fun e => by subst e; simp at h
    show D.bool false = _
    simp [this]
  · conv => whnf
    have hlen : xs.length = ys.length := by simp at h; omega
    refine LoopP_intro (fun i : Nat => i ≤ xs.length ∧ xs.take i = ys.take i) (fun i => ⟨26, [(0, vDc (.slice 2 (xs.map cNode))), (1, vDc (.slice 2 (ys.map cNode))), (12, vDc (.int .i64 xs.length)), (13, vDc (.int .i64 i))], []⟩) (fun i => xs.length - i) 0 (by simp) ?_ (fun i ⟨hi, he⟩ => ?_)
    · refine Le.sub rfl ⟨rfl, rfl, ?_, rfl⟩ trivial
      show D.int _ _ = D.int _ _
      simp
    · conv => whnf
      refine condP_intro (fun h2 => ?_) (fun h2 => ?_)
      · have hix : i < xs.length := by simpa using h2
        have hiy : i < ys.length := by omega
        conv => whnf
        refine ⟨_, ⟨Int.natCast_nonneg _, cget hix⟩, ?_⟩
        conv => whnf
        refine ⟨_, ⟨Int.natCast_nonneg _, cget hiy⟩, ?_⟩
        conv => whnf
        refine condP_intro (fun h4 => ?_) (fun h4 => ?_)
        · conv => whnf
          refine And.intro ?_ trivial
          have : xs ≠ ys := fun e => by subst e; simp at h4
          show D.bool false = _
          simp [this]
        · conv => whnf
          exact ⟨i + 1, ⟨hix, take_succ_eq hix hiy he (x_node h4)⟩, Le.sub rfl ⟨rfl, rfl, rfl, inc64 hix (by simpa using hr.1.len)⟩ trivial, by omega⟩
      · conv => whnf
        refine And.intro ?_ trivial
        have := eq_of_take hlen (by simp at h2; omega) he
        show D.bool true = _
        simp [this]

theorem c_law_sameEnum (x y : MEnum) : Go.Ab.Fn Try.prog 58 [.agg (cEnum x), .agg (cEnum y)] (resB (decide (x = y))) [] := by
  refine Go.Ab.Fn.intro htab hm Try.func58 rfl Try.call58 (by kernel_rfl) 17 Try.ntmps58 rfl (fun hr => ?_)
  conv => whnf
  refine condP_intro (fun h => ?_) (fun h => ?_)
  · conv => whnf
    refine CallK_intro (c_eq_str x.members y.members) (.inl rfl) ?_
    conv => whnf
    refine And.intro ?_ trivial
    show D.bool _ = D.bool _
    cases x; cases y; simp at h; simp [h]
  · conv => whnf
    refine And.intro ?_ trivial
    show D.bool _ = D.bool _
    cases x; cases y; simp at h; simp [h]

theorem c_law_sameTable (x y : MTable) : Go.Ab.Fn Try.prog 60 [.agg (cTable x), .agg (cTable y)] (resB (decide (x = y))) [] := by
  refine Go.Ab.Fn.intro htab hm Try.func60 rfl Try.call60 (by kernel_rfl) 31 Try.ntmps60 rfl (fun hr => ?_)
  have key : ∀ b, b = (decide (x.name = y.name) && (decide (x.key = y.key) && (decide (x.val = y.val) && decide (x.rows = y.rows)))) → D.bool b = D.bool (decide (x = y)) := by
    intro b hb; subst hb; cases x; cases y; simp
  conv => whnf
  refine condP_intro (fun h => ?_) (fun h => ?_)
  · conv => whnf
    refine condP_intro (fun h2 => ?_) (fun h2 => ?_)
    · conv => whnf
      refine condP_intro (fun h3 => ?_) (fun h3 => ?_)
      · conv => whnf
        refine CallK_intro (c_eq_row x.rows y.rows) (.inl rfl) ?_
        conv => whnf
        refine And.intro (key _ ?_) trivial
        have e2 : x.key = y.key := x_ty (by simpa using h2)
        have e3 : x.val = y.val := x_ty (by simpa using h3)
        simp at h
        simp [h, e2, e3]
      · conv => whnf
        refine And.intro (key _ ?_) trivial
        have e3 : x.val ≠ y.val := fun e => by rw [e] at h3; simp at h3
        simp [e3]
    · conv => whnf
      refine And.intro (key _ ?_) trivial
      have e2 : x.key ≠ y.key := fun e => by rw [e] at h2; simp at h2
      simp [e2]
  · conv => whnf
    refine And.intro (key _ ?_) trivial
    simp at h
    simp [h]

theorem c_clone_str (es : List (List D)) (hb : es.length ≤ 1000000000) : Go.Ab.Fn Try.prog 86 [.c (.slice 1 es)] (.s (.c (.d (.slice 1 es)))) [] := by
  refine Go.Ab.Fn.intro htab hm Try.func86 rfl Try.call86 (by kernel_rfl) 8 Try.ntmps86 rfl (fun hr => ?_)
  conv => whnf
  intro b hb
  conv => whnf
  refine condP_intro (fun h => ?_) (fun h => ?_)
  · conv => whnf
    refine And.intro ?_ trivial
    show D.slice _ _ = D.slice _ _
    rw [hb h]
  · conv => whnf
    refine ⟨by simp; omega, ?_⟩
    conv => whnf
    exact And.intro rfl trivial

theorem c_clone_row (es : List (List D)) (hb : es.length ≤ 1000000000) : Go.Ab.Fn Try.prog 87 [.c (.slice 5 es)] (.s (.c (.d (.slice 5 es)))) [] := by
  refine Go.Ab.Fn.intro htab hm Try.func87 rfl Try.call87 (by kernel_rfl) 8 Try.ntmps87 rfl (fun hr => ?_)
  conv => whnf
  intro b hb
  conv => whnf
  refine condP_intro (fun h => ?_) (fun h => ?_)
  · conv => whnf
    refine And.intro ?_ trivial
    show D.slice _ _ = D.slice _ _
    rw [hb h]
  · conv => whnf
    refine ⟨by simp; omega, ?_⟩
    conv => whnf
    exact And.intro rfl trivial

theorem c_clone_field (es : List (List D)) (hb : es.length ≤ 1000000000) : Go.Ab.Fn Try.prog 76 [.c (.slice 3 es)] (.s (.c (.d (.slice 3 es)))) [] := by
  refine Go.Ab.Fn.intro htab hm Try.func76 rfl Try.call76 (by kernel_rfl) 8 Try.ntmps76 rfl (fun hr => ?_)
  conv => whnf
  intro b hb
  conv => whnf
  refine condP_intro (fun h => ?_) (fun h => ?_)
  · conv => whnf
    refine And.intro ?_ trivial
    show D.slice _ _ = D.slice _ _
    rw [hb h]
  · conv => whnf
    refine ⟨by simp; omega, ?_⟩
    conv => whnf
    exact And.intro rfl trivial

theorem c_clone_node (es : List (List D)) (hb : es.length ≤ 1000000000) : Go.Ab.Fn Try.prog 77 [.c (.slice 2 es)] (.s (.c (.d (.slice 2 es)))) [] := by
  refine Go.Ab.Fn.intro htab hm Try.func77 rfl Try.call77 (by kernel_rfl) 8 Try.ntmps77 rfl (fun hr => ?_)
  conv => whnf
  intro b hb
  conv => whnf
  refine condP_intro (fun h => ?_) (fun h => ?_)
  · conv => whnf
    refine And.intro ?_ trivial
    show D.slice _ _ = D.slice _ _
    rw [hb h]
  · conv => whnf
    refine ⟨by simp; omega, ?_⟩
    conv => whnf
    exact And.intro rfl trivial

end Go.Proofs.Ytllfapkcniadgaa
