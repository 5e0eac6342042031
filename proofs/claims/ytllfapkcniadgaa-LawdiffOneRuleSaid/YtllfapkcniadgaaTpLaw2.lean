/- Contracts: laws copied. -/
import Derived.Test.YtllfapkcniadgaaTpLaw
set_option linter.unusedVariables false
namespace Go.Proofs.Ytllfapkcniadgaa
open Go Go.Ab

theorem c_law_enums (l : List MEnum) (hl : l.length ≤ 100000) (hm' : ∀ e ∈ l, MidEnum e) : Go.Ab.Fn Try.prog 74 [.c (enums l)] (vDc (enums l)) [] := by
  refine Go.Ab.Fn.intro htab hm Try.func74 rfl Try.call74 (by kernel_rfl) 23 Try.ntmps74 rfl (fun hr => ?_)
  conv => whnf
  refine LoopP_intro (fun i : Nat => i ≤ l.length) (fun i => ⟨23, [(3, .s (.c (.own 2000 2))), (6, vDc (enums l)), (7, vDc (.int .i64 l.length)), (8, vDc (.int .i64 i))], [(2000, .row 70 2 ((l.take i).map cEnum))]⟩) (fun i => l.length - i) 0 (Nat.zero_le _) ?_ (fun i k1 => ?_)
  · refine Le.sub rfl ⟨⟨rfl, rfl, rfl⟩, rfl, ?_, rfl⟩ ⟨rfl, trivial⟩
    show D.int _ _ = D.int _ _
    simp
  · conv => whnf
    refine condP_intro (fun q => ?_) (fun q => ?_)
    · have hi : i < l.length := by simpa using q
      have hmi := hm' _ (List.getElem_mem hi)
      unfold MidEnum at hmi
      conv => whnf
      refine ⟨_, ⟨Int.natCast_nonneg _, cget hi⟩, ?_⟩
      conv => whnf
      refine CallK_intro (c_clone_str (l[i].members.map cStr) (by simp; omega)) (.inl rfl) ?_
      conv => whnf
      have hlen : ((l.take i).map cEnum).length = i := by simp; omega
      refine ⟨⟨by simp only [List.length_singleton, hlen]; omega, by simp only [List.length_singleton, hlen]; omega⟩, ?_⟩
      conv => whnf
      exact ⟨i + 1, hi, Le.sub rfl ⟨⟨rfl, rfl⟩, rfl, rfl, inc64 hi (by omega)⟩ ⟨⟨⟨rfl, rfl⟩, by rw [List.take_succ_eq_append_getElem hi, List.map_append]; rfl⟩, trivial⟩, by omega⟩
    · conv => whnf
      refine And.intro ?_ trivial
      show D.slice 2 _ = D.slice 2 _
      rw [List.take_of_length_le (by simp at q; omega)]

theorem c_law_tables (l : List MTable) (hl : l.length ≤ 100000) (hm' : ∀ e ∈ l, MidTable e) : Go.Ab.Fn Try.prog 75 [.c (tables l)] (vDc (tables l)) [] := by
  refine Go.Ab.Fn.intro htab hm Try.func75 rfl Try.call75 (by kernel_rfl) 22 Try.ntmps75 rfl (fun hr => ?_)
  conv => whnf
  refine LoopP_intro (fun i : Nat => i ≤ l.length) (fun i => ⟨22, [(3, .s (.c (.own 2000 6))), (6, vDc (tables l)), (7, vDc (.int .i64 l.length)), (8, vDc (.int .i64 i))], [(2000, .row 75 6 ((l.take i).map cTable))]⟩) (fun i => l.length - i) 0 (Nat.zero_le _) ?_ (fun i k1 => ?_)
  · refine Le.sub rfl ⟨⟨rfl, rfl, rfl⟩, rfl, ?_, rfl⟩ ⟨rfl, trivial⟩
    show D.int _ _ = D.int _ _
    simp
  · conv => whnf
    refine condP_intro (fun q => ?_) (fun q => ?_)
    · have hi : i < l.length := by simpa using q
      have hmi := hm' _ (List.getElem_mem hi)
      unfold MidTable at hmi
      conv => whnf
      refine ⟨_, ⟨Int.natCast_nonneg _, cget hi⟩, ?_⟩
      conv => whnf
      refine CallK_intro (c_clone_row (l[i].rows.map cRow) (by simp; omega)) (.inl rfl) ?_
      conv => whnf
      have hlen : ((l.take i).map cTable).length = i := by simp; omega
      refine ⟨⟨by simp only [List.length_singleton, hlen]; omega, by simp only [List.length_singleton, hlen]; omega⟩, ?_⟩
      conv => whnf
      exact ⟨i + 1, hi, Le.sub rfl ⟨⟨rfl, rfl⟩, rfl, rfl, inc64 hi (by omega)⟩ ⟨⟨⟨rfl, rfl⟩, by rw [List.take_succ_eq_append_getElem hi, List.map_append]; rfl⟩, trivial⟩, by omega⟩
    · conv => whnf
      refine And.intro ?_ trivial
      show D.slice 6 _ = D.slice 6 _
      rw [List.take_of_length_le (by simp at q; omega)]

/-- Clone gives a law whose scopes lie in a row of their own. -/
theorem c_law_Clone (l : MLaw) (hl : MidLaw l) : Go.Ab.Fn Try.prog 63 [.agg (cLaw l)] (.s (.agg [.d (enums l.enums), .d (tables l.tables), .own 0 5])) [(0, .row 52 5 (l.scopes.map cScope))] := by
  refine Go.Ab.Fn.intro htab hm Try.func63 rfl Try.call63 (by kernel_rfl) 61 Try.ntmps63 rfl (fun hr => ?_)
  conv => whnf
  refine CallK_intro (c_law_enums l.enums hl.enums hl.enum) (.inl rfl) ?_
  conv => whnf
  refine CallK_intro (c_law_tables l.tables hl.tables hl.table) (.inl rfl) ?_
  conv => whnf
  refine LoopP_intro (fun i : Nat => i ≤ l.scopes.length) (fun i => ⟨61, [(2, .s (.c (.ref 16 0 0 0))), (3, .s (.c (.ref 24 0 0 0))), (17, vDc (scopes l.scopes)), (18, vDc (.int .i64 l.scopes.length)), (19, vDc (.int .i64 i))], [(24, .var [.d (enums l.enums), .d (tables l.tables), .own 2000 5]), (2000, .row 52 5 ((l.scopes.take i).map cScope)), (16, .var [.nil 2, .nil 6, .nil 5])]⟩) (fun i => l.scopes.length - i) 0 (Nat.zero_le _) ?_ (fun i k1 => ?_)
  · refine Le.sub rfl ⟨⟨⟨rfl, rfl⟩, rfl, rfl⟩, ⟨⟨rfl, rfl⟩, rfl, rfl⟩, rfl, ?_, rfl⟩ ⟨⟨rfl, rfl, ⟨rfl, rfl, rfl⟩⟩, rfl, ⟨rfl, rfl, rfl⟩, trivial⟩
    show D.int _ _ = D.int _ _
    simp
  · conv => whnf
    refine condP_intro (fun q => ?_) (fun q => ?_)
    · have hi : i < l.scopes.length := by simpa using q
      obtain ⟨m1, m2, m3, m4⟩ := hl.scope _ (List.getElem_mem hi)
      have hs := hl.scopes
      conv => whnf
      refine ⟨_, ⟨Int.natCast_nonneg _, cget hi⟩, ?_⟩
      conv => whnf
      refine CallK_intro (c_clone_field (l.scopes[i].inputs.map cField) (by simp; omega)) (.inl rfl) ?_
      conv => whnf
      refine CallK_intro (c_clone_field (l.scopes[i].defs.map cField) (by simp; omega)) (.inl rfl) ?_
      conv => whnf
      refine LoopP_intro (fun k : Nat => k ≤ l.scopes[i].rules.length) (fun k => ⟨61, [(2, .s (.c (.ref 16 0 0 0))), (3, .s (.c (.ref 24 0 0 0))), (17, vDc (scopes l.scopes)), (18, vDc (.int .i64 l.scopes.length)), (19, vDc (.int .i64 i)), (5, .s (.c (.ref 40 0 0 0))), (6, .s (.c (.own 2001 9))), (32, vDc (mrules l.scopes[i].rules)), (33, vDc (.int .i64 l.scopes[i].rules.length)), (34, vDc (.int .i64 k))], [(40, .var ((cScope l.scopes[i]).map C.d)), (2001, .row 57 9 ((l.scopes[i].rules.take k).map cRule)), (24, .var [.d (enums l.enums), .d (tables l.tables), .own 2000 5]), (2000, .row 52 5 ((l.scopes.take i).map cScope)), (16, .var [.nil 2, .nil 6, .nil 5])]⟩) (fun k => l.scopes[i].rules.length - k) 0 (Nat.zero_le _) ?_ (fun k k2 => ?_)
      · refine Le.sub rfl ⟨⟨⟨rfl, rfl⟩, rfl, rfl⟩, ⟨⟨rfl, rfl⟩, rfl, rfl⟩, rfl, rfl, rfl, ⟨⟨rfl, rfl⟩, rfl, rfl⟩, ⟨rfl, rfl, rfl⟩, rfl, ?_, rfl⟩ ⟨⟨rfl, rfl, rfl, rfl, rfl⟩, rfl, ⟨rfl, rfl, rfl, rfl⟩, ⟨⟨rfl, rfl⟩, rfl⟩, ⟨rfl, rfl, rfl⟩, trivial⟩
        show D.int _ _ = D.int _ _
        simp
      · conv => whnf
        refine condP_intro (fun q2 => ?_) (fun q2 => ?_)
        · have hk : k < l.scopes[i].rules.length := by simpa using q2
          obtain ⟨g1, g2⟩ := m4 _ (List.getElem_mem hk)
          conv => whnf
          refine ⟨_, ⟨Int.natCast_nonneg _, cget hk⟩, ?_⟩
          conv => whnf
          refine CallK_intro (c_clone_node (l.scopes[i].rules[k].guard.map cNode) (by simp; omega)) (.inl rfl) ?_
          conv => whnf
          refine CallK_intro (c_clone_node (l.scopes[i].rules[k].value.map cNode) (by simp; omega)) (.inl rfl) ?_
          conv => whnf
          have hlen : ((l.scopes[i].rules.take k).map cRule).length = k := by simp; omega
          refine ⟨⟨by simp only [List.length_singleton, hlen]; omega, by simp only [List.length_singleton, hlen]; omega⟩, ?_⟩
          conv => whnf
          exact ⟨k + 1, hk, Le.sub rfl ⟨⟨⟨rfl, rfl⟩, rfl, rfl⟩, ⟨⟨rfl, rfl⟩, rfl, rfl⟩, rfl, rfl, rfl, ⟨⟨rfl, rfl⟩, rfl, rfl⟩, ⟨rfl, rfl⟩, rfl, rfl, inc64 hk (by omega)⟩ ⟨⟨rfl, rfl, rfl, rfl, rfl⟩, ⟨⟨rfl, rfl⟩, by rw [List.take_succ_eq_append_getElem hk, List.map_append]; rfl⟩, ⟨rfl, rfl, rfl, rfl⟩, ⟨⟨rfl, rfl⟩, rfl⟩, ⟨rfl, rfl, rfl⟩, trivial⟩, by omega⟩
        · conv => whnf
          refine .inl ?_
          conv => whnf
          have hlen : ((l.scopes.take i).map cScope).length = i := by simp; omega
          have hall : l.scopes[i].rules.take k = l.scopes[i].rules := List.take_of_length_le (by simp at q2; omega)
          refine ⟨⟨by simp only [List.length_singleton, hlen]; omega, by simp only [List.length_singleton, hlen]; omega⟩, ?_⟩
          conv => whnf
          exact ⟨i + 1, hi, Le.sub rfl ⟨⟨⟨rfl, rfl⟩, rfl, rfl⟩, ⟨⟨rfl, rfl⟩, rfl, rfl⟩, rfl, rfl, inc64 hi (by omega)⟩ ⟨⟨rfl, rfl, ⟨rfl, rfl⟩⟩, ⟨⟨rfl, rfl⟩, by rw [List.take_succ_eq_append_getElem hi, List.map_append, hall]; rfl⟩, ⟨rfl, rfl, rfl⟩, trivial⟩, by omega⟩
    · conv => whnf
      have hall : l.scopes.take i = l.scopes := List.take_of_length_le (by simp at q; omega)
      rw [hall]
      exact ⟨rfl, rfl, ⟨rfl, rfl, rfl, rfl⟩, trivial⟩

theorem c_interfaceOf (l : MLaw) (hl : MidLaw l) : Go.Ab.Fn Try.prog 43 [.agg (cLaw l)] (.s (.agg [.d (enums l.enums), .d (tables l.tables), .own 0 5])) [(0, .row 52 5 ((bare l).scopes.map cScope))] := by
  refine Go.Ab.Fn.intro htab hm Try.func43 rfl Try.call43 (by kernel_rfl) 20 Try.ntmps43 rfl (fun hr => ?_)
  conv => whnf
  refine CallK_intro (c_law_Clone l hl) (.inl rfl) ?_
  conv => whnf
  have hs := hl.scopes
  refine LoopP_intro (fun i : Nat => i ≤ l.scopes.length) (fun i => ⟨20, [(2, .s (.c (.ref 16 0 0 0))), (3, .s (.c (.ref 24 0 0 0))), (9, vDc (.int .i64 l.scopes.length)), (10, vDc (.int .i64 i))], [(24, .var [.d (enums l.enums), .d (tables l.tables), .own 48 5]), (48, .row 52 5 ((turnTo bareS l.scopes i).map cScope)), (16, .var [.nil 2, .nil 6, .nil 5])]⟩) (fun i => l.scopes.length - i) 0 (Nat.zero_le _) ?_ (fun i k1 => ?_)
  · refine Le.sub rfl ⟨⟨⟨rfl, rfl⟩, rfl, rfl⟩, ⟨⟨rfl, rfl⟩, rfl, rfl⟩, ?_, rfl⟩ ⟨⟨rfl, rfl, ⟨rfl, rfl⟩⟩, ⟨⟨rfl, rfl⟩, ?_⟩, ⟨rfl, rfl, rfl⟩, trivial⟩
    · show D.int _ _ = D.int _ _
      simp
    · rw [part_zero]
  · conv => whnf
    refine condP_intro (fun q => ?_) (fun q => ?_)
    · have hi : i < l.scopes.length := by simpa using q
      conv => whnf
      refine ⟨⟨Int.natCast_nonneg _, by rw [List.length_map, part_len]; simpa using hi⟩, ?_⟩
      conv => whnf
      refine ⟨_, part_get bareS cScope hi, ?_⟩
      conv => whnf
      exact ⟨i + 1, hi, Le.sub rfl ⟨⟨⟨rfl, rfl⟩, rfl, rfl⟩, ⟨⟨rfl, rfl⟩, rfl, rfl⟩, rfl, inc64 hi (by omega)⟩ ⟨⟨rfl, rfl, ⟨rfl, rfl⟩⟩, ⟨⟨rfl, rfl⟩, part_set bareS cScope hi⟩, ⟨rfl, rfl, rfl⟩, trivial⟩, by omega⟩
    · conv => whnf
      rw [part_all bareS (by simp at q; omega)]
      exact ⟨rfl, rfl, ⟨rfl, rfl, rfl, rfl⟩, trivial⟩
end Go.Proofs.Ytllfapkcniadgaa
