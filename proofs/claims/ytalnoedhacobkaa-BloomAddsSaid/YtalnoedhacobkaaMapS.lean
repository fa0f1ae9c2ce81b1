/- Maps of numbers to 'true', as the machine holds them: a row of keys, each once. -/
import Derived.Test.YtalnoedhacobkaaFun
namespace Go.Proofs.Ytalnoedhacobkaa.AI
open Go
set_option linter.unusedVariables false
set_option linter.unusedSimpArgs false

def ME (K : IntKind) (l : List Int) : List AV := l.map fun n => .tup [.sc (.int K n), .sc (.bool true)]
/-- A key more. -/
def insM (l : List Int) (n : Int) : List Int := if n ∈ l then l else l ++ [n]
@[simp] theorem keyEq_int (K : IntKind) (a b : Int) : keyEq (.int K a) (.int K b) = some (decide (a = b)) := by
  simp [keyEq]
  rfl
@[simp] theorem len_ME (K : IntKind) (l : List Int) : (ME K l).length = l.length := by simp [ME]
@[simp] theorem findA_ME (K : IntKind) (n : Int) : ∀ l : List Int, findA (.int K n) (ME K l) = some (if n ∈ l then some (.sc (.bool true)) else none)
  | [] => rfl
  | x :: l => by
    have h := findA_ME K n l
    show ((keyEq (.int K n) (.int K x)).bind fun t => cond t (some (some (AV.sc (.bool true)))) (findA (.int K n) (ME K l))) = _
    rw [keyEq_int, h]
    by_cases e : n = x
    · simp [e]
    · simp [e]
@[simp] theorem putA_ME (K : IntKind) (n : Int) : ∀ l : List Int, putA (.int K n) (.sc (.bool true)) (ME K l) = some (ME K (insM l n))
  | [] => rfl
  | x :: l => by
    have h := putA_ME K n l
    show ((keyEq (.int K n) (.int K x)).bind fun t => cond t (some (AV.tup [.sc (.int K x), .sc (.bool true)] :: ME K l)) ((putA (.int K n) (.sc (.bool true)) (ME K l)).map fun r => AV.tup [.sc (.int K x), .sc (.bool true)] :: r)) = _
    rw [keyEq_int, h]
    by_cases e : n = x
    · simp [e, insM, ME]
    · by_cases hm : n ∈ l
      · simp [e, insM, hm, ME]
      · simp [e, insM, hm, ME]
theorem insM_nodup {l : List Int} {n : Int} (h : l.Nodup) : (insM l n).Nodup := by
  unfold insM
  split
  · exact h
  · rename_i hn
    exact List.nodup_append.mpr ⟨h, by simp, by intro a ha b hb; simp at hb; subst hb; intro e; subst e; exact hn ha⟩
theorem mem_insM {l : List Int} {n x : Int} : x ∈ insM l n ↔ x ∈ l ∨ x = n := by
  unfold insM
  split
  · rename_i h
    constructor
    · exact .inl
    · rintro (h' | rfl)
      · exact h'
      · exact h
  · simp
def inss (l : List Int) (r : List Int) : List Int := r.foldl insM l
theorem inss_nodup : ∀ {r l : List Int}, l.Nodup → (inss l r).Nodup
  | [], l, h => h
  | x :: r, l, h => inss_nodup (r := r) (insM_nodup h)
theorem mem_inss {x : Int} : ∀ {r l : List Int}, x ∈ inss l r ↔ x ∈ l ∨ x ∈ r
  | [], l => by simp [inss]
  | y :: r, l => by
    have := mem_inss (x := x) (r := r) (l := insM l y)
    show x ∈ inss (insM l y) r ↔ _
    rw [this, mem_insM]
    simp [or_assoc]
theorem inss_append (l r s : List Int) : inss l (r ++ s) = inss (inss l r) s := by simp [inss, List.foldl_append]
/-- Rows without repeats of the same members have the same length. -/
theorem len_of_mem {a b : List Int} (ha : a.Nodup) (hb : b.Nodup) (h : ∀ x, x ∈ a ↔ x ∈ b) : a.length = b.length :=
  ((List.perm_ext_iff_of_nodup ha hb).mpr h).length_eq
@[simp] theorem getMap_map (b : Nat) : getMap (.map b) = some b := rfl
@[simp] theorem ro_map (b : Nat) : ro (.map b) = .map b := rfl
@[simp] theorem ro1_map (b : Nat) : ro1 (.map b) = .map b := rfl
theorem rdM_put (hp : Hp) (b : Nat) (es : List AV) : (hp.put b 1 es).rdM b = some es := by simp [Hp.rdM, Hp.put]
theorem rdM_new (hp : Hp) : hp.newM.rdM hp.next = some [] := by simp [Hp.rdM, Hp.newM]
@[simp] theorem keyT_u64 (s b : Nat) (n : Int) : keyT (TI.mk TK.sc s b [.int .u64 0]) (.int .u64 n) = true := rfl
@[simp] theorem keyT_u32 (s b : Nat) (n : Int) : keyT (TI.mk TK.sc s b [.int .u32 0]) (.int .u32 n) = true := rfl
@[simp] theorem orA_some (x y : AV) : orA (some x) y = x := rfl
@[simp] theorem orA_none (y : AV) : orA none y = y := rfl
theorem orA_ite (p : Prop) [Decidable p] : orA (if p then some (.sc (.bool true)) else none) (.sc (.bool false)) = .sc (.bool (decide p)) := by
  by_cases h : p <;> simp [h]
end Go.Proofs.Ytalnoedhacobkaa.AI
