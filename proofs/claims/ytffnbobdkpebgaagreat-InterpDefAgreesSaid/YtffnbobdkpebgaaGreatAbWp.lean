/- The abstract machine: what it takes for code to be run to its end, state by state. -/
import Derived.Test.YtffnbobdkpebgaaGreatAbEq2
import Derived.Test.YtffnbobdkpebgaaGreatAbOps6
set_option linter.unusedVariables false
namespace Go.Ab
open Go.RowKit
def fN : Nat → (Nat → Prop) → Prop
 | 0, k => k 0
 | 1, k => k 1
 | 2, k => k 2
 | 3, k => k 3
 | 4, k => k 4
 | 5, k => k 5
 | 6, k => k 6
 | 7, k => k 7
 | 8, k => k 8
 | 9, k => k 9
 | n + 10, k => k (n + 10)
theorem fN_eq (n : Nat) (k : Nat → Prop) : fN n k = k n := by
 unfold fN
 split <;> rfl
def fC (c : C) (k : C → Prop) : Prop := match c with
 | .d x => k (.d x)
 | .nil s => fN s fun s => k (.nil s)
 | .own id s => fN id fun id => fN s fun s => k (.own id s)
 | .sub id s st n => fN id fun id => fN s fun s => k (.sub id s st n)
 | .ref id i s off => fN id fun id => fN s fun s => fN off fun off => k (.ref id i s off)
 | .vrow id s n => fN id fun id => fN s fun s => fN n fun n => k (.vrow id s n)
 | .junk => k .junk
def fCs : List C → (List C → Prop) → Prop
 | [], k => k []
 | c :: r, k => fC c fun c' => fCs r fun r' => k (c' :: r')
def fSV (v : SV) (k : SV → Prop) : Prop := match v with
 | .c x => fC x fun x' => k (.c x')
 | .agg cs => fCs cs fun cs' => k (.agg cs')
 | .fn f cs => fCs cs fun cs' => k (.fn f cs')
def fSVs : List SV → (List SV → Prop) → Prop
 | [], k => k []
 | c :: r, k => fSV c fun c' => fSVs r fun r' => k (c' :: r')
def fAV (v : AV) (k : AV → Prop) : Prop := match v with
 | .s x => fSV x fun x' => k (.s x')
 | .tup vs => fSVs vs fun vs' => k (.tup vs')
def fOb (o : Ob) (k : Ob → Prop) : Prop := match o with
 | .var cs => fCs cs fun cs' => k (.var cs')
 | .row T s es => fN T fun T => fN s fun s => k (.row T s es)
def fH : Heap → (Heap → Prop) → Prop
 | [], k => k []
 | (id, o) :: r, k => fOb o fun o' => fH r fun r' => k ((id, o') :: r')
def fDs : List D → (List D → Prop) → Prop
 | [], k => k []
 | c :: r, k => fDs r fun r' => k (c :: r')
def fDV (v : DV) (k : DV → Prop) : Prop := match v with
 | .c x => k (.c x)
 | .agg cs => fDs cs fun cs' => k (.agg cs')
def fDVs : List DV → (List DV → Prop) → Prop
 | [], k => k []
 | c :: r, k => fDV c fun c' => fDVs r fun r' => k (c' :: r')
theorem fC_eq (c : C) (k : C → Prop) : fC c k = k c := by cases c <;> simp only [fC, fN_eq]
theorem fCs_eq : ∀ (cs : List C) (k : List C → Prop), fCs cs k = k cs
 | [], k => rfl
 | c :: r, k => by simp only [fCs, fC_eq]; rw [fCs_eq r]
theorem fSV_eq (v : SV) (k : SV → Prop) : fSV v k = k v := by
 cases v with
 | c x => simp only [fSV, fC_eq]
 | agg cs => simp only [fSV]; rw [fCs_eq]
 | fn f cs => simp only [fSV]; rw [fCs_eq]
theorem fSVs_eq : ∀ (cs : List SV) (k : List SV → Prop), fSVs cs k = k cs
 | [], k => rfl
 | c :: r, k => by simp only [fSVs]; rw [fSV_eq, fSVs_eq r]
theorem fAV_eq (v : AV) (k : AV → Prop) : fAV v k = k v := by
 cases v with
 | s x => simp only [fAV]; rw [fSV_eq]
 | tup vs => simp only [fAV]; rw [fSVs_eq]
theorem fOb_eq (o : Ob) (k : Ob → Prop) : fOb o k = k o := by
 cases o with
 | var cs => simp only [fOb]; rw [fCs_eq]
 | row T s es => simp only [fOb, fN_eq]
theorem fH_eq : ∀ (h : Heap) (k : Heap → Prop), fH h k = k h
 | [], k => rfl
 | (id, o) :: r, k => by simp only [fH]; rw [fOb_eq, fH_eq r]
theorem fDs_eq : ∀ (cs : List D) (k : List D → Prop), fDs cs k = k cs
 | [], k => rfl
 | c :: r, k => by simp only [fDs]; rw [fDs_eq r]
theorem fDV_eq (v : DV) (k : DV → Prop) : fDV v k = k v := by
 cases v with
 | c x => rfl
 | agg cs => simp only [fDV]; rw [fDs_eq]
theorem fDVs_eq : ∀ (cs : List DV) (k : List DV → Prop), fDVs cs k = k cs
 | [], k => rfl
 | c :: r, k => by simp only [fDVs]; rw [fDV_eq, fDVs_eq r]
def fT : List (Nat × AV) → (List (Nat × AV) → Prop) → Prop
 | [], k => k []
 | (i, v) :: r, k => fAV v fun v' => fT r fun r' => k ((i, v') :: r')
def fApp : Heap → Heap → (Heap → Prop) → Prop
 | [], h, k => k h
 | (i, o) :: r, h, k => fN i fun i' => fOb o fun o' => fApp r h fun r' => k ((i', o') :: r')
def putK (σ : St) (d : Option Nat) (v : AV) (K : St → Prop) : Prop := fAV v fun v' => match σ with
 | ⟨n, t, h⟩ => match d with
  | some d => K ⟨n, (d, v') :: t, h⟩
  | none => K ⟨n, t, h⟩
def addK (σ : St) (news : Heap) (K : St → Prop) : Prop := match σ with
 | ⟨n, t, h⟩ => fApp news h fun h' => K ⟨n, t, h'⟩
def killK (p : Nat → Bool) (σ : St) (K : St → Prop) : Prop := match σ with
 | ⟨n, t, h⟩ => fT (killT p t) fun t' => fH (killH p h) fun h' => K ⟨n, t', h'⟩
def updK (σ : St) (id : Nat) (o : Ob) (K : St → Prop) : Prop := match σ with
 | ⟨n, t, h⟩ => fH (upd h id o) fun h' => K ⟨n, t, h'⟩
def commitK (p : Nat → Bool) (σ : St) (K : St → Prop) : Prop := match σ with
 | ⟨n, t, h⟩ => fT (commitT p h t) fun t' => fH (commitH p h h) fun h' => K ⟨n, t', h'⟩
def fSt (σ : St) (K : St → Prop) : Prop := match σ with
 | ⟨n, t, h⟩ => fT t fun t' => fH h fun h' => K ⟨n, t', h'⟩
theorem fT_eq : ∀ (h : List (Nat × AV)) (k : List (Nat × AV) → Prop), fT h k = k h
 | [], k => rfl
 | (id, o) :: r, k => by simp only [fT, fAV_eq]; rw [fT_eq r]
theorem fApp_eq : ∀ (n h : Heap) (k : Heap → Prop), fApp n h k = k (n ++ h)
 | [], h, k => rfl
 | (id, o) :: r, h, k => by simp only [fApp, fOb_eq, fN_eq]; rw [fApp_eq r]; rfl
theorem putK_eq (σ : St) (d : Option Nat) (v : AV) (K : St → Prop) : putK σ d v K = K (σ.put d v) := by
 obtain ⟨n, t, h⟩ := σ
 simp only [putK, fAV_eq]
 cases d <;> rfl
theorem addK_eq (σ : St) (news : Heap) (K : St → Prop) : addK σ news K = K (σ.add news) := by
 obtain ⟨n, t, h⟩ := σ
 simp only [addK, fApp_eq]
 rfl
theorem killK_eq (p : Nat → Bool) (σ : St) (K : St → Prop) : killK p σ K = K (σ.kill p) := by
 obtain ⟨n, t, h⟩ := σ
 simp only [killK, fT_eq, fH_eq]
 rfl
theorem commitK_eq (p : Nat → Bool) (σ : St) (K : St → Prop) : commitK p σ K = K (σ.commit p) := by
 obtain ⟨n, t, h⟩ := σ
 simp only [commitK, fT_eq, fH_eq]
 rfl
theorem updK_eq (σ : St) (id : Nat) (o : Ob) (K : St → Prop) : updK σ id o K = K { σ with h := upd σ.h id o } := by
 obtain ⟨n, t, h⟩ := σ
 simp only [updK, fH_eq]
theorem fSt_eq (σ : St) (K : St → Prop) : fSt σ K = K σ := by
 obtain ⟨n, t, h⟩ := σ
 simp only [fSt, fT_eq, fH_eq]
def condP : Bool → Prop → Prop → Prop
 | true, p, _ => p
 | false, _, q => q
theorem condP_intro {b : Bool} {p q : Prop} (hp : b = true → p) (hq : b = false → q) : condP b p q := by
 cases b
 ·exact hq rfl
 ·exact hp rfl
def bid (o : Oper) : Nat := (o.dst.getD 0) * 8
def CallK (P : Program) (g : FuncId) (ds : List DV) (ad : Bool) (k : AV → Heap → Prop) : Prop :=
 ∃ r news, Fn P g ds r news ∧ (ad = true ∨ (r.flat = true ∧ news = [])) ∧ k r news
theorem CallK_intro {P : Program} {g : FuncId} {ds : List DV} {ad : Bool} {k : AV → Heap → Prop} {r : AV} {news : Heap} (h : Fn P g ds r news) (hd : ad = true ∨ (r.flat = true ∧ news = [])) (hk : k r news) : CallK P g ds ad k := ⟨r, news, h, hd, hk⟩
def loadK (i : TI) (l : List C) (k : AV → Heap → Prop) : Prop :=
 fCs l fun l => match Nat.beq l.length i.size, i.agg, l with
  | true, true, l => k (.s (.agg l)) []
  | true, false, [c] => k (.s (.c c)) []
  | _, _, _ => False
def aop (P : Program) (tab : Tab) (σ : St) (o : Oper) (k : AV → Heap → Prop) : Prop :=
 match o.op with
 | .move x => k (opnd tab σ o.type x) []
 | .assign x => k (opnd tab σ o.type x) []
 | .pick c x y => match opnd tab σ 0 c with
  | .s (.c (.d (.bool t))) => condP t (k (opnd tab σ o.type x) []) (k (opnd tab σ o.type y) [])
  | _ => False
 | .alloc t => match look tab t with
  | some i => k (.s (.c (.ref (bid o) 0 0 0))) [(bid o, .var i.zero)]
  | none => False
 | .box t x => match cellsOf (opnd tab σ t x) with
  | some cs => k (.s (.c (.ref (bid o) 0 0 0))) [(bid o, .var cs)]
  | none => False
 | .build t parts => match look tab t with
  | some i => match Nat.beq i.tag 6, fillC tab i.fields σ i.zero parts.toList with
   | true, some out => fCs out fun out => k (.s (.agg out)) []
   | _, _ => False
  | none => False
 | .buildSlice t n parts => match look tab t with
  | some i => match look tab i.elem with
   | some ie => match Nat.beq i.tag 4, rowParts tab σ i.elem ie.size 0 parts.toList, (Nat.beq parts.toList.length n && (Nat.ble (n * ie.size) 16777216 && Nat.ble n 16777216)) with
    | true, some es, true => match inBs bsD o.dst t with
     | true => k (.s (.c (.d (.slice ie.size es)))) []
     | false => k (.s (.c (.own (bid o) ie.size))) [(bid o, .row i.elem ie.size es)]
    | _, _, _ => False
   | none => False
  | none => False
 | .load t x => match look tab t with
  | some i => match opnd tab σ 0 x with
   | .s (.c (.d (.ptr cs off))) => loadK i (((cs.drop off).take i.size).map .d) k
   | .s (.c (.ref id ix s off)) => match look σ.h id with
    | some (.var cs) => match ix with
     | 0 => loadK i ((cs.drop off).take i.size) k
     | _ + 1 => False
    | some (.row T s' es) => match Nat.beq s s' with
     | true => ∃ e, es[ix]? = some e ∧ loadK i (((e.drop off).take i.size).map .d) k
     | false => False
    | none => False
   | _ => False
  | none => False
 | .fieldAddr t x f => match look tab t with
  | some i => match Nat.beq i.tag 6, i.fields[f]? with
   | true, some (fo, _) => match opnd tab σ 0 x with
    | .s (.c (.d (.ptr cs off))) => k (.s (.c (.d (.ptr cs (off + fo))))) []
    | .s (.c (.ref id ix s off)) => k (.s (.c (.ref id ix s (off + fo)))) []
    | _ => False
   | _, _ => False
  | none => False
 | .indexAddr t x y => match look tab t with
  | some i => match look tab i.elem with
   | some ie => match Nat.beq i.tag 4, opnd tab σ 0 x, opnd tab σ 0 y with
    | true, .s (.c (.d (.slice s es))), .s (.c (.d (.int _ n))) => match Nat.beq ie.size s with
     | true => ∃ e, (0 ≤ n ∧ es[n.toNat]? = some e) ∧ k (.s (.c (.d (.ptr e 0)))) []
     | false => False
    | true, .s (.c (.own id s)), .s (.c (.d (.int _ n))) => match Nat.beq ie.size s, look σ.h id with
     | true, some (.row _ s' es) => match Nat.beq s' s with
      | true => (0 ≤ n ∧ n.toNat < es.length) ∧ k (.s (.c (.ref id n.toNat s 0))) []
      | false => False
     | _, _ => False
    | true, .s (.c (.sub id s st m)), .s (.c (.d (.int _ n))) => match Nat.beq ie.size s, look σ.h id with
     | true, some (.row _ s' _) => match Nat.beq s' s with
      | true => (0 ≤ n ∧ n.toNat < m) ∧ k (.s (.c (.ref id (st + n.toNat) s 0))) []
      | false => False
     | _, _ => False
    | true, .s (.c (.vrow id s m)), .s (.c (.d (.int _ n))) => match Nat.beq ie.size s with
     | true => (0 ≤ n ∧ n.toNat < m) ∧ fN (n.toNat * s) fun off => k (.s (.c (.ref id 0 s off))) []
     | false => False
    | _, _, _ => False
   | none => False
  | none => False
 | .slice t x lo hi none => match look tab t with
  | some i => match look tab i.elem with
   | some ie => match Nat.beq i.tag 4, opnd tab σ 0 x with
    | true, .s (.c (.d (.slice s es))) => match Nat.beq ie.size s, bnd tab σ 0 lo, bnd tab σ es.length hi with
     | true, some l, some h => (0 ≤ l ∧ l ≤ h ∧ h ≤ es.length) ∧ k (.s (.c (.d (.slice s ((es.drop l.toNat).take (h.toNat - l.toNat)))))) []
     | _, _, _ => False
    | true, .s (.c (.own id s)) => match look σ.h id with
     | some (.row _ s' es) => match Nat.beq s' s && Nat.beq ie.size s, bnd tab σ 0 lo, bnd tab σ es.length hi with
      | true, some l, some h => (0 ≤ l ∧ l ≤ h ∧ h ≤ es.length) ∧ k (.s (.c (.sub id s l.toNat (h.toNat - l.toNat)))) []
      | _, _, _ => False
     | _ => False
    | true, .s (.c (.sub id s st n)) => match look σ.h id with
     | some (.row _ s' _) => match Nat.beq s' s && Nat.beq ie.size s, bnd tab σ 0 lo, bnd tab σ n hi with
      | true, some l, some h => (0 ≤ l ∧ l ≤ h ∧ h ≤ n) ∧ k (.s (.c (.sub id s (st + l.toNat) (h.toNat - l.toNat)))) []
      | _, _, _ => False
     | _ => False
    | _, _ => False
   | none => False
  | none => False
 | .extract x i => match opnd tab σ 0 x with
  | .tup vs => match vs[i]? with
   | some r => k (.s r) []
   | none => False
  | _ => False
 | .nilCheck x => match opnd tab σ 0 x with
  | .s (.c (.d (.ptr cs off))) => k (.s (.c (.d (.ptr cs off)))) []
  | .s (.c (.ref id i s off)) => k (.s (.c (.ref id i s off))) []
  | _ => False
 | .binOp op t x y _ => match opnd tab σ 0 x, opnd tab σ 0 y with
  | .s (.c (.d (.bool a))), .s (.c (.d (.bool b))) => match look tab t, boolBin op a b with
   | some i, some c => match Nat.beq i.tag 1 with
    | true => k (.s (.c (.d (.bool c)))) []
    | false => False
   | _, _ => False
  | .s (.c (.d (.int kk a))), .s (.c (.d (.int kk' b))) => match shBin op kk a b with
   | some z => 0 ≤ b ∧ k (.s (.c (.d z))) []
   | none => match divBin op kk a b with
    | some z => match decide (kk = kk') with
     | true => b ≠ 0 ∧ k (.s (.c (.d z))) []
     | false => False
    | none => match scal op (.int kk a) (.int kk' b) with
     | some z => k (.s (.c (.d z))) []
     | none => False
  | .s (.c (.d (.str a))), .s (.c (.d (.str b))) => match op with
   | .add => ∃ c, (a.size + b.size ≤ 1000000 ∧ c = a ++ b) ∧ k (.s (.c (.d (.str c)))) []
   | op => match scal op (.str a) (.str b) with
    | some z => k (.s (.c (.d z))) []
    | none => False
  | .s (.c (.d a)), .s (.c (.d b)) => match scal op a b with
   | some z => k (.s (.c (.d z))) []
   | none => False
  | .s (.agg xs), .s (.agg ys) => match look tab t, allD xs, allD ys with
   | some i, some dx, some dy => match Nat.beq i.tag 6 && !(Nat.beq i.eqk.length 0), eqKs i.eqk dx dy with
    | true, some b => match eqBin op b with
     | some c => k (.s (.c (.d (.bool c)))) []
     | none => False
    | _, _ => False
   | _, _, _ => False
  | _, _ => False
 | .unOp op _ x => match opnd tab σ 0 x with
  | .s (.c (.d a)) => match unD op a with
   | some z => k (.s (.c (.d z))) []
   | none => False
  | _ => False
 | .index t x y => match look tab t, opnd tab σ 0 x, opnd tab σ 0 y with
  | some i, .s (.c (.d (.str s))), .s (.c (.d (.int _ n))) => match Nat.beq i.tag 3 with
   | true => ∃ v, strAt s n = some v ∧ k (.s (.c (.d (.int .u8 v)))) []
   | false => False
  | _, _, _ => False
 | .field t x f => match look tab t, opnd tab σ 0 x with
  | some i, .s (.agg cs) => match Nat.beq i.tag 6, i.fields[f]? with
   | true, some (fo, ft) => match look tab ft with
    | some fi => loadK fi ((cs.drop fo).take fi.size) k
    | none => False
   | _, _ => False
  | _, _ => False
 | .convert t t' x => match look tab t, look tab t', opnd tab σ 0 x with
  | some _, some j, .s (.c (.d (.int _ n))) => match Nat.beq j.tag 2, j.eqk with
   | true, [.int k' _] => k (.s (.c (.d (.int k' (k'.wrap n))))) []
   | _, _ => False
  | _, _, _ => False
 | .makeSlice t x y => match look tab t with
  | some i => match look tab i.elem with
   | some ie => match Nat.beq i.tag 4, opnd tab σ 0 x, opnd tab σ 0 y, allD ie.zero with
    | true, .s (.c (.d (.int _ n))), .s (.c (.d (.int _ m))), some z => match Nat.ble ie.bytes 100000 && Nat.ble ie.size 1000 with
     | true => ∃ es, (n = m ∧ 0 ≤ n ∧ n ≤ 1000000 ∧ es = List.replicate n.toNat z) ∧ k (.s (.c (.own (bid o) ie.size))) [(bid o, .row i.elem ie.size es)]
     | false => False
    | _, _, _, _ => False
   | none => False
  | none => False
 | .makeFunc fn first caps => match fn, first.toList, capsD tab σ caps.toList with
  | .func g, [], some ds => k (.s (.c (.d (.clos g ds)))) []
  | .func g, [], none => match capsC tab σ caps.toList with
   | some cs => fCs cs fun cs => k (.s (.fn g cs)) []
   | none => False
  | _, _, _ => False
 | .call c => match c.callee, c.args.toList, c.argTypes.toList with
  | .builtin .len, [x], [t] => match look tab t with
   | some i => match i.tag, opnd tab σ t x with
    | 4, .s (.c cx) => match elems σ.h cx with
     | some (_, es) => k (.s (.c (.d (.int .i64 es.length)))) []
     | none => False
    | 3, .s (.c (.d (.str s))) => k (.s (.c (.d (.int .i64 s.size)))) []
    | _, _ => False
   | none => False
  | .builtin .max, [x, y], [t, t'] => match opnd tab σ t x, opnd tab σ t' y with
   | .s (.c (.d (.int kk a))), .s (.c (.d (.int kk' b))) => match decide (kk = kk') with
    | true => k (.s (.c (.d (.int kk (maxI a b))))) []
    | false => False
   | _, _ => False
  | .builtin .min, [x, y], [t, t'] => match opnd tab σ t x, opnd tab σ t' y with
   | .s (.c (.d (.int kk a))), .s (.c (.d (.int kk' b))) => match decide (kk = kk') with
    | true => k (.s (.c (.d (.int kk (minI a b))))) []
    | false => False
   | _, _ => False
  | .value f, _, _ => match opnd tab σ 0 f with
   | .s (.c (.d (.clos g caps))) => match lendArgs tab σ c.args.toList c.argTypes.toList with
    | some ds => fDVs (ds ++ caps.map .c) fun ds' => CallK P g ds' (argsD tab σ c.args.toList c.argTypes.toList) fun r news => fAV (r.up (bid o)) fun r' => fH (ups (bid o) news) fun n' => k r' n'
    | none => False
   | _ => False
  | _, _, _ => False
 | _ => False
theorem condP_elim {b : Bool} {p q : Prop} (h : condP b p q) : (b = true ∧ p) ∨ (b = false ∧ q) := by
 cases b
 ·exact .inr ⟨rfl, h⟩
 ·exact .inl ⟨rfl, h⟩
section sound
variable {P : Program} {tab : Tab}
theorem loadK_elim {i : TI} {l : List C} {k : AV → Heap → Prop} (h : loadK i l k) : l.length = i.size ∧ ∃ r : SV, ((i.agg = true ∧ r = .agg l) ∨ (i.agg = false ∧ ∃ c, l = [c] ∧ r = .c c)) ∧ k (.s r) [] := by
 unfold loadK at h
 rw [fCs_eq] at h
 split at h
 ·rename_i h2 h1; exact ⟨Nat.eq_of_beq_eq_true h1, _, .inl ⟨h2, rfl⟩, h⟩
 ·rename_i c h2 h1; exact ⟨Nat.eq_of_beq_eq_true h1, _, .inr ⟨h2, c, rfl, rfl⟩, h⟩
 ·exact h.elim
omit P tab in
theorem int_kind {P : Program} {t : Nat} {i : TI} {k : IntKind} {z : Int} (hi : TIOk P t i) (htag : i.tag = 2) (he : i.eqk = [.int k z]) : P.underlying t = some (.int k) := by
 obtain ⟨h1, _⟩ := hi.eqk (by rw [he]; simp)
 obtain ⟨info, desc, g1, g2, g3, g4, g5, g6, _⟩ := hi.info
 rw [he] at h1
 rw [htag] at g6
 cases desc <;> simp [descTag] at g6
 rename_i k'
 simp only [eqKinds, g2] at h1
 split at h1
 ·simp at h1; rw [g2, h1.1]
 ·cases h1
theorem look_nil_imp {α : Type} {p : Nat → α → Prop} : ∀ id (ob : α), look ([] : List (Nat × α)) id = some ob → p id ob := by
 intro id ob h; simp [look] at h
theorem aop_sound (htab : tabCheck P tab = true) {σ : St} {o : Oper} {k : AV → Heap → Prop} (h : aop P tab σ o k) : ∃ v news, StepOK P o σ v news ∧ k v news := by
 unfold aop at h
 split at h
 ·rename_i x ho; exact ⟨_, _, ok_move (.inl ho), h⟩
 ·rename_i x ho; exact ⟨_, _, ok_move (.inr ho), h⟩
 ·rename_i c x y ho
  split at h
  ·rename_i t hc
   have := ok_pick (P := P) (ty := o.type) ho hc
   rcases condP_elim h with ⟨rfl, h⟩ | ⟨rfl, h⟩
   ·exact ⟨_, _, this, h⟩
   ·exact ⟨_, _, this, h⟩
  ·exact h.elim
 ·rename_i t ho
  split at h
  ·rename_i i hi; exact ⟨_, _, ok_alloc ho (tabOk_look htab hi), h⟩
  ·exact h.elim
 ·rename_i t x ho
  split at h
  ·rename_i cs hc; exact ⟨_, _, ok_box ho hc, h⟩
  ·exact h.elim
 ·rename_i t parts ho
  split at h
  ·rename_i i hi
   split at h
   ·rename_i out htag hf
    rw [fCs_eq] at h
    exact ⟨_, _, ok_build htab ho (tabOk_look htab hi) (Nat.eq_of_beq_eq_true htag) hf, h⟩
   ·exact h.elim
  ·exact h.elim
 ·rename_i t n parts ho
  split at h
  ·rename_i i hi
   split at h
   ·rename_i ie hie
    split at h
    ·rename_i es htag hr hb
     simp only [Bool.and_eq_true] at hb
     split at h
     ·exact ⟨_, _, ok_buildSliceD ho (tabOk_look htab hi) (Nat.eq_of_beq_eq_true htag) (tabOk_look htab hie) hr (Nat.eq_of_beq_eq_true hb.1) (Nat.le_of_ble_eq_true hb.2.1) (Nat.le_of_ble_eq_true hb.2.2), h⟩
     ·exact ⟨_, _, ok_buildSlice ho (tabOk_look htab hi) (Nat.eq_of_beq_eq_true htag) (tabOk_look htab hie) hr (Nat.eq_of_beq_eq_true hb.1) (Nat.le_of_ble_eq_true hb.2.1) (Nat.le_of_ble_eq_true hb.2.2), h⟩
    ·exact h.elim
   ·exact h.elim
  ·exact h.elim
 ·rename_i t x ho
  split at h
  ·rename_i i hi
   split at h
   ·rename_i cs off hx
    obtain ⟨h1, r, h2, h3⟩ := loadK_elim h
    exact ⟨_, _, ok_load (tab := tab) ho (tabOk_look htab hi) h1 (fun S ρ F H w v hs hh hr => by rw [hx] at hr; exact cells_ptr i.size hr) h2, h3⟩
   ·rename_i id ix s off hx
    split at h
    ·rename_i cs hl
     split at h
     ·obtain ⟨h1, r, h2, h3⟩ := loadK_elim h
      exact ⟨_, _, ok_load (tab := tab) ho (tabOk_look htab hi) h1 (fun S ρ F H w v hs hh hr => by rw [hx] at hr; exact cells_var i.size hh (hs _ _ hl) hr) h2, h3⟩
     ·exact h.elim
    ·rename_i T s' es hl
     split at h
     ·rename_i hss
      have := Nat.eq_of_beq_eq_true hss
      subst this
      obtain ⟨e, he, h⟩ := h
      obtain ⟨h1, r, h2, h3⟩ := loadK_elim h
      exact ⟨_, _, ok_load (tab := tab) ho (tabOk_look htab hi) h1 (fun S ρ F H w v hs hh hr => by rw [hx] at hr; exact cells_row i.size hh (hs _ _ hl) he hr) h2, h3⟩
     ·exact h.elim
    ·exact h.elim
   ·exact h.elim
  ·exact h.elim
 ·rename_i t x f ho
  split at h
  ·rename_i i hi
   split at h
   ·rename_i fo ft htag hf
    split at h
    ·rename_i cs off hx; exact ⟨_, _, ok_field_ptr ho (tabOk_look htab hi) (Nat.eq_of_beq_eq_true htag) hf hx, h⟩
    ·rename_i id ix s off hx; exact ⟨_, _, ok_field_ref ho (tabOk_look htab hi) (Nat.eq_of_beq_eq_true htag) hf hx, h⟩
    ·exact h.elim
   ·exact h.elim
  ·exact h.elim
 ·rename_i t x y ho
  split at h
  ·rename_i i hi
   split at h
   ·rename_i ie hie
    split at h
    ·rename_i s es kk n htag hx hy
     split at h
     ·rename_i hs
      obtain ⟨e, ⟨h0, he⟩, h⟩ := h
      exact ⟨_, _, ok_index_d ho (tabOk_look htab hi) (Nat.eq_of_beq_eq_true htag) (tabOk_look htab hie) (Nat.eq_of_beq_eq_true hs) hx hy h0 he, h⟩
     ·exact h.elim
    ·rename_i id s kk n htag hx hy
     split at h
     ·rename_i T s' es hs hl
      split at h
      ·rename_i hss
       have := Nat.eq_of_beq_eq_true hss
       subst this
       obtain ⟨⟨h0, he⟩, h⟩ := h
       exact ⟨_, _, ok_index_own ho (tabOk_look htab hi) (Nat.eq_of_beq_eq_true htag) (tabOk_look htab hie) (Nat.eq_of_beq_eq_true hs) hx hl hy h0 he, h⟩
      ·exact h.elim
     ·exact h.elim
    ·rename_i id s st m kk n htag hx hy
     split at h
     ·rename_i T s' es hs hl
      split at h
      ·rename_i hss
       have := Nat.eq_of_beq_eq_true hss
       subst this
       obtain ⟨⟨h0, he⟩, h⟩ := h
       exact ⟨_, _, ok_index_sub ho (tabOk_look htab hi) (Nat.eq_of_beq_eq_true htag) (tabOk_look htab hie) (Nat.eq_of_beq_eq_true hs) hx hl hy h0 he, h⟩
      ·exact h.elim
     ·exact h.elim
    ·rename_i id s m kk n htag hx hy
     split at h
     ·rename_i hs
      obtain ⟨⟨h0, he⟩, h⟩ := h
      rw [fN_eq] at h
      exact ⟨_, _, ok_index_vrow ho (tabOk_look htab hi) (Nat.eq_of_beq_eq_true htag) (tabOk_look htab hie) (Nat.eq_of_beq_eq_true hs) hx hy h0 he, h⟩
     ·exact h.elim
    ·exact h.elim
   ·exact h.elim
  ·exact h.elim
 ·rename_i t x lo hi' ho
  split at h
  ·rename_i i hi
   split at h
   ·rename_i ie hie
    split at h
    ·rename_i s es htag hx
     split at h
     ·rename_i l u hs hl hu
      obtain ⟨⟨h0, h1, h2⟩, h⟩ := h
      exact ⟨_, _, ok_slice_d ho (tabOk_look htab hi) (Nat.eq_of_beq_eq_true htag) (tabOk_look htab hie) (Nat.eq_of_beq_eq_true hs) hx hl hu h0 h1 h2, h⟩
     ·exact h.elim
    ·rename_i id s htag hx
     split at h
     ·rename_i T s' es hlk
      split at h
      ·rename_i l u hb hl hu
       simp only [Bool.and_eq_true] at hb
       have := Nat.eq_of_beq_eq_true hb.1
       subst this
       obtain ⟨⟨h0, h1, h2⟩, h⟩ := h
       exact ⟨_, _, ok_slice_own ho (tabOk_look htab hi) (Nat.eq_of_beq_eq_true htag) (tabOk_look htab hie) (Nat.eq_of_beq_eq_true hb.2) hx hlk hl hu h0 h1 h2, h⟩
      ·exact h.elim
     ·exact h.elim
    ·rename_i id s st n htag hx
     split at h
     ·rename_i T s' es hlk
      split at h
      ·rename_i l u hb hl hu
       simp only [Bool.and_eq_true] at hb
       have := Nat.eq_of_beq_eq_true hb.1
       subst this
       obtain ⟨⟨h0, h1, h2⟩, h⟩ := h
       exact ⟨_, _, ok_slice_sub ho (tabOk_look htab hi) (Nat.eq_of_beq_eq_true htag) (tabOk_look htab hie) (Nat.eq_of_beq_eq_true hb.2) hx hlk hl hu h0 h1 h2, h⟩
      ·exact h.elim
     ·exact h.elim
    ·exact h.elim
   ·exact h.elim
  ·exact h.elim
 ·rename_i x i ho
  split at h
  ·rename_i vs hx
   split at h
   ·rename_i r hr; exact ⟨_, _, ok_extract ho hx hr, h⟩
   ·exact h.elim
  ·exact h.elim
 ·rename_i x ho
  split at h
  ·rename_i cs off hx
   have := ok_nilCheck (P := P) ho (.inl ⟨cs, off, hx⟩)
   rw [hx] at this
   exact ⟨_, _, this, h⟩
  ·rename_i id i s off hx
   have := ok_nilCheck (P := P) ho (.inr ⟨id, i, s, off, hx⟩)
   rw [hx] at this
   exact ⟨_, _, this, h⟩
  ·exact h.elim
 ·rename_i op t x y t' ho
  split at h
  ·rename_i a b hx hy
   split at h
   ·rename_i i c hi hc
    split at h
    ·rename_i htag; exact ⟨_, _, ok_binb ho (tabOk_look htab hi) (Nat.eq_of_beq_eq_true htag) hx hy hc, h⟩
    ·exact h.elim
   ·exact h.elim
  ·rename_i kk a kk' b hx hy
   split at h
   ·rename_i z hz; exact ⟨_, _, ok_sh ho hx hy h.1 hz, h.2⟩
   ·split at h
    ·rename_i z hz
     split at h
     ·rename_i hk
      have hk' : kk = kk' := by simpa using hk
      subst hk'
      exact ⟨_, _, ok_div ho hx hy h.1 hz, h.2⟩
     ·exact h.elim
    ·split at h
     ·rename_i z hz; exact ⟨_, _, ok_bin ho hx hy hz, h⟩
     ·exact h.elim
  ·rename_i a b hx hy
   split at h
   ·obtain ⟨c, ⟨hb, rfl⟩, h⟩ := h
    exact ⟨_, _, ok_cat ho hx hy hb, h⟩
   ·split at h
    ·rename_i z hz; exact ⟨_, _, ok_bin ho hx hy hz, h⟩
    ·exact h.elim
  ·rename_i a b _ _ _ hx hy
   split at h
   ·rename_i z hz; exact ⟨_, _, ok_bin ho hx hy hz, h⟩
   ·exact h.elim
  ·rename_i xs ys hx hy
   split at h
   ·rename_i i dx dy hi hdx hdy
    split at h
    ·rename_i b hcond hb
     simp only [Bool.and_eq_true] at hcond
     split at h
     ·rename_i c hc
      exact ⟨_, _, ok_binagg ho (tabOk_look htab hi) (Nat.eq_of_beq_eq_true hcond.1) (fun h0 => by rw [h0] at hcond; simp at hcond) hx hy hdx hdy hb hc, h⟩
     ·exact h.elim
    ·exact h.elim
   ·exact h.elim
  ·exact h.elim
 ·rename_i op t x ho
  split at h
  ·rename_i a hx
   split at h
   ·rename_i z hz; exact ⟨_, _, ok_un ho hx hz, h⟩
   ·exact h.elim
  ·exact h.elim
 ·rename_i t x y ho
  split at h
  ·rename_i i s kk n hi hx hy
   split at h
   ·rename_i htag
    obtain ⟨v, hv, h⟩ := h
    exact ⟨_, _, ok_index_str ho (tabOk_look htab hi) (Nat.eq_of_beq_eq_true htag) hx hy hv, h⟩
   ·exact h.elim
  ·exact h.elim
 ·rename_i t x f ho
  split at h
  ·rename_i i cs hi hx
   split at h
   ·rename_i fo ft htag hf
    split at h
    ·rename_i fi hfi
     obtain ⟨h1, r, h2, h3⟩ := loadK_elim h
     exact ⟨_, _, ok_field_agg ho (tabOk_look htab hi) (Nat.eq_of_beq_eq_true htag) hf (tabOk_look htab hfi) hx h1 h2, h3⟩
    ·exact h.elim
   ·exact h.elim
  ·exact h.elim
 ·rename_i t t' x ho
  split at h
  ·rename_i i j kk n hi hj hx
   split at h
   ·rename_i k' z htag hek
    exact ⟨_, _, ok_conv ho hx (by obtain ⟨_, d, _, hd, _⟩ := (tabOk_look htab hi).info; rw [hd]; rfl) (int_kind (tabOk_look htab hj) (Nat.eq_of_beq_eq_true htag) hek), h⟩
   ·exact h.elim
  ·exact h.elim
 ·rename_i t x y ho
  split at h
  ·rename_i i hi
   split at h
   ·rename_i ie hie
    split at h
    ·rename_i kk n kk' m z htag hx hy hz
     split at h
     ·rename_i hb
      simp only [Bool.and_eq_true] at hb
      obtain ⟨es, ⟨rfl, h0, h1, rfl⟩, h⟩ := h
      exact ⟨_, _, ok_makeSlice ho (tabOk_look htab hi) (Nat.eq_of_beq_eq_true htag) (tabOk_look htab hie) hx hy h0 h1 (Nat.le_of_ble_eq_true hb.1) hz (Nat.le_of_ble_eq_true hb.2), h⟩
     ·exact h.elim
    ·exact h.elim
   ·exact h.elim
  ·exact h.elim
 ·rename_i fn first caps ho
  split at h
  ·rename_i g ds hf hc; exact ⟨_, _, ok_makeFunc ho hf hc, h⟩
  ·rename_i g hf _
   split at h
   ·rename_i cs hc; rw [fCs_eq] at h; exact ⟨_, _, ok_makeFn ho hf hc, h⟩
   ·exact h.elim
  ·exact h.elim
 ·rename_i c ho
  obtain ⟨callee, args, argTypes⟩ := c
  split at h
  ·rename_i x t hcal ha hty
   have hcal' : callee = .builtin .len := hcal
   have ha' : args = #[x] := by apply Array.ext'; simpa using ha
   have hty' : argTypes = #[t] := by apply Array.ext'; simpa using hty
   subst hcal'; subst ha'; subst hty'
   split at h
   ·rename_i i hi
    split at h
    ·rename_i cx htag hx
     split at h
     ·rename_i s es he; exact ⟨_, _, ok_len ho (tabOk_look htab hi) htag hx he, h⟩
     ·exact h.elim
    ·rename_i s htag hx; exact ⟨_, _, ok_lens ho (tabOk_look htab hi) htag hx, h⟩
    ·exact h.elim
   ·exact h.elim
  ·rename_i x y t t' hcal ha hty
   have hcal' : callee = .builtin .max := hcal
   have ha' : args = #[x, y] := by apply Array.ext'; simpa using ha
   have hty' : argTypes = #[t, t'] := by apply Array.ext'; simpa using hty
   subst hcal'; subst ha'; subst hty'
   split at h
   ·rename_i kk a kk' b hx hy
    split at h
    ·rename_i hk
     have hk' : kk = kk' := by simpa using hk
     subst hk'
     exact ⟨_, _, ok_max ho hx hy, h⟩
    ·exact h.elim
   ·exact h.elim
  ·rename_i x y t t' hcal ha hty
   have hcal' : callee = .builtin .min := hcal
   have ha' : args = #[x, y] := by apply Array.ext'; simpa using ha
   have hty' : argTypes = #[t, t'] := by apply Array.ext'; simpa using hty
   subst hcal'; subst ha'; subst hty'
   split at h
   ·rename_i kk a kk' b hx hy
    split at h
    ·rename_i hk
     have hk' : kk = kk' := by simpa using hk
     subst hk'
     exact ⟨_, _, ok_min ho hx hy, h⟩
    ·exact h.elim
   ·exact h.elim
  ·rename_i f hcal
   split at h
   ·rename_i g caps hf
    split at h
    ·rename_i ds hds
     rw [fDVs_eq] at h
     obtain ⟨r, news, hfn, hd, h⟩ := h
     rw [fAV_eq, fH_eq] at h
     have hcal' : callee = .value f := hcal
     exact ⟨_, _, ok_call (bid o) ho (by rw [callOf, hcal']) hf hds hfn hd, h⟩
    ·exact h.elim
   ·exact h.elim
  ·exact h.elim
 ·exact h.elim
end sound
theorem CallK_elim {P : Program} {g : FuncId} {ds : List DV} {ad : Bool} {k : AV → Heap → Prop} (h : CallK P g ds ad k) : ∃ r news, Fn P g ds r news ∧ (ad = true ∨ (r.flat = true ∧ news = [])) ∧ k r news := h
attribute [irreducible] CallK
end Go.Ab
