/-
  Plain: edits, which ones are right, their trees, and how many words they take.
-/
import Derived.Test.YtigdcnlhgelkaaaP07
namespace Go.PL
set_option linter.unusedVariables false
set_option linter.unusedSimpArgs false

structure WE where
  at_ : Int
  mask : Int
  old : Int
  new : Int
mutual
inductive E where
  | mk (kind : Int) (old new : T) (words : List WE) (kids : List KE) (list : Int) (ops : List OP)
inductive KE where
  | mk (at_ : Int) (e : E)
inductive OP where
  | mk (kind n : Int) (l : List T) (e : E)
end
namespace E
def kind : E → Int | mk k _ _ _ _ _ _ => k
def old : E → T | mk _ o _ _ _ _ _ => o
def new : E → T | mk _ _ n _ _ _ _ => n
def words : E → List WE | mk _ _ _ w _ _ _ => w
def kids : E → List KE | mk _ _ _ _ k _ _ => k
def list : E → Int | mk _ _ _ _ _ l _ => l
def ops : E → List OP | mk _ _ _ _ _ _ o => o
variable {k l : Int} {o n : T} {w : List WE} {ks : List KE} {os : List OP}
@[simp] theorem kind_mk : (mk k o n w ks l os).kind = k := rfl
@[simp] theorem old_mk : (mk k o n w ks l os).old = o := rfl
@[simp] theorem new_mk : (mk k o n w ks l os).new = n := rfl
@[simp] theorem words_mk : (mk k o n w ks l os).words = w := rfl
@[simp] theorem kids_mk : (mk k o n w ks l os).kids = ks := rfl
@[simp] theorem list_mk : (mk k o n w ks l os).list = l := rfl
@[simp] theorem ops_mk : (mk k o n w ks l os).ops = os := rfl
end E
namespace KE
def at_ : KE → Int | mk a _ => a
def e : KE → E | mk _ e => e
@[simp] theorem at_mk {a : Int} {e : E} : (mk a e).at_ = a := rfl
@[simp] theorem e_mk {a : Int} {e : E} : (mk a e).e = e := rfl
end KE
namespace OP
def kind : OP → Int | mk k _ _ _ => k
def n : OP → Int | mk _ n _ _ => n
def l : OP → List T | mk _ _ l _ => l
def e : OP → E | mk _ _ _ e => e
variable {k m : Int} {t : List T} {x : E}
@[simp] theorem kind_mk : (mk k m t x).kind = k := rfl
@[simp] theorem n_mk : (mk k m t x).n = m := rfl
@[simp] theorem l_mk : (mk k m t x).l = t := rfl
@[simp] theorem e_mk : (mk k m t x).e = x := rfl
end OP
abbrev E0 : E := .mk 0 T0 T0 [] [] 0 []

mutual
theorem E.ind {P : E → Prop} (h : ∀ k o n w ks l os, (∀ x, x ∈ ks → P x.e) → (∀ x, x ∈ os → P x.e) → P (.mk k o n w ks l os)) : ∀ e, P e
  | .mk k o n w ks l os => h k o n w ks l os (E.indK h ks) (E.indO h os)
theorem E.indK {P : E → Prop} (h : ∀ k o n w ks l os, (∀ x, x ∈ ks → P x.e) → (∀ x, x ∈ os → P x.e) → P (.mk k o n w ks l os)) : ∀ (ks : List KE), ∀ x, x ∈ ks → P x.e
  | [], _, hx => nomatch hx
  | .mk a e :: ks, x, hx => by
    rcases List.mem_cons.1 hx with q | hx
    · rw [q]; exact E.ind h e
    · exact E.indK h ks x hx
theorem E.indO {P : E → Prop} (h : ∀ k o n w ks l os, (∀ x, x ∈ ks → P x.e) → (∀ x, x ∈ os → P x.e) → P (.mk k o n w ks l os)) : ∀ (os : List OP), ∀ x, x ∈ os → P x.e
  | [], _, hx => nomatch hx
  | .mk a n l e :: os, x, hx => by
    rcases List.mem_cons.1 hx with q | hx
    · rw [q]; exact E.ind h e
    · exact E.indO h os x hx
end

/-! ### which edits are right -/
def noneT (t : T) : Bool := decide (t.kind = 0) && t.words.isEmpty && t.kids.isEmpty
def sameE (e : E) : Bool := decide (e.kind = 0) && noneT e.old && noneT e.new && (e.words.isEmpty && e.kids.isEmpty && e.ops.isEmpty) && decide (e.list = 0)
def withinZ (w mask : Int) : Bool := (List.range 8).all fun i => decide (mask / 2 ^ i % 2 = 1) || decide (w / 256 ^ i % 256 = 0)
def wordOk (last : Int) (w : WE) : Bool := !(decide (w.at_ ≤ last) || decide (w.at_ > 65534) || decide (w.mask = 0) || !withinZ w.old w.mask || !withinZ w.new w.mask)
def wordsOk : Int → List WE → Bool
  | _, [] => true
  | last, w :: l => wordOk last w && wordsOk w.at_ l
def sat (n : Int) : Int := if n > 1048576 then 1048576 else n
def opLen (o : OP) : Int := if o.kind = 3 then 1 else o.n + o.l.length
def lengths : Int → Int → List OP → Int × Int
  | n, m, [] => (n, m)
  | n, m, o :: l => lengths (sat (if o.kind ≠ 2 then n + opLen o else n)) (sat (if o.kind ≠ 1 then m + opLen o else m)) l
/-- A step that holds no edit. -/
def opFlat (list : Int) (o : OP) : Bool :=
  if o.kind = 0 then decide (1 ≤ o.n) && decide (o.n ≤ 1048576) && o.l.isEmpty && sameE o.e
  else if o.n ≠ 0 ∨ o.kind < 0 ∨ o.kind > 3 then false
  else if o.kind < 3 then (o.l.all fun t => rightT 64 (.mk list [] [t])) && !o.l.isEmpty && sameE o.e
  else true
def opDeep (list : Int) (o : OP) : Bool := o.l.isEmpty && !decide (o.e.kind = 0) && !decide (list ≤ 7)
def opFit (list : Int) (o : OP) : Bool := decide (list = 8) || decide (o.e.kind = 2) || decide (o.e.kind = 1) && decide (o.e.old.kind = 1) && decide (o.e.new.kind = 1)
def headOk (d : Nat) (k : Int) (o n : T) (nw nk : Nat) (list : Int) (no : Nat) : Bool :=
  !(decide (d = 0) || decide (k < 0) || decide (k > 3)) && !(!decide (k = 1) && !(noneT o && noneT n) || !decide (k = 2) && decide (nw + nk > 0) || !decide (k = 3) && (!decide (list = 0) || decide (no > 0)))
mutual
def rightE : Nat → E → Bool
  | d, .mk k o n ws ks l os =>
    if headOk d k o n ws.length ks.length l os.length = false then false
    else if k = 1 then rightT 64 o && rightT 64 n && !decide (o.kind = 10) && !decide (n.kind = 10)
    else if wordsOk (-1) ws = false then false
    else if rightKs (d - 1) (-1) ks = false then false
    else if k = 3 ∧ (l < 2 ∨ l > 9) then false
    else if rightOs (d - 1) l os = false then false
    else decide ((lengths 0 0 os).1 < 1048576) && decide ((lengths 0 0 os).2 < 1048576)
def rightKs : Nat → Int → List KE → Bool
  | _, _, [] => true
  | d, last, .mk a e :: l => !(decide (a ≤ last) || decide (a > 65534) || decide (e.kind = 0)) && rightE d e && rightKs d a l
def rightOs : Nat → Int → List OP → Bool
  | _, _, [] => true
  | d, list, .mk k n t e :: l => rightO d list (.mk k n t e) && rightOs d list l
def rightO : Nat → Int → OP → Bool
  | d, list, .mk k n t e => opFlat list (.mk k n t e) && (if k = 3 then opDeep list (.mk k n t e) && rightE d e && opFit list (.mk k n t e) else true)
end
theorem rightE_mk (d : Nat) (k : Int) (o n : T) (ws : List WE) (ks : List KE) (l : Int) (os : List OP) : rightE d (.mk k o n ws ks l os) =
    if headOk d k o n ws.length ks.length l os.length = false then false
    else if k = 1 then rightT 64 o && rightT 64 n && !decide (o.kind = 10) && !decide (n.kind = 10)
    else if wordsOk (-1) ws = false then false
    else if rightKs (d - 1) (-1) ks = false then false
    else if k = 3 ∧ (l < 2 ∨ l > 9) then false
    else if rightOs (d - 1) l os = false then false
    else decide ((lengths 0 0 os).1 < 1048576) && decide ((lengths 0 0 os).2 < 1048576) := by rw [rightE]
@[simp] theorem rightKs_nil (d : Nat) (last : Int) : rightKs d last [] = true := by rw [rightKs]
@[simp] theorem rightKs_cons (d : Nat) (last : Int) (x : KE) (l : List KE) : rightKs d last (x :: l) = (!(decide (x.at_ ≤ last) || decide (x.at_ > 65534) || decide (x.e.kind = 0)) && rightE d x.e && rightKs d x.at_ l) := by cases x; rw [rightKs]; rfl
@[simp] theorem rightOs_nil (d : Nat) (list : Int) : rightOs d list [] = true := by rw [rightOs]
@[simp] theorem rightOs_cons (d : Nat) (list : Int) (x : OP) (l : List OP) : rightOs d list (x :: l) = (rightO d list x && rightOs d list l) := by cases x; rw [rightOs]
theorem rightO_eq (d : Nat) (list : Int) (x : OP) : rightO d list x = (opFlat list x && (if x.kind = 3 then opDeep list x && rightE d x.e && opFit list x else true)) := by cases x; rw [rightO]; rfl
theorem rightOs_all {d : Nat} {list : Int} : ∀ {l : List OP}, rightOs d list l = true ↔ ∀ x, x ∈ l → rightO d list x = true
  | [] => by simp
  | x :: l => by simp [rightOs_all (l := l)]

/- How many parts are left behind an edit; below 0: it has more, or is deeper. -/
mutual
def leftE : Nat → Int → E → Int
  | d, n, .mk _ o nn ws ks _ os => if d = 0 ∨ n - 1 - ws.length - os.length < 0 then -1 else leftOs (d - 1) (leftKs (d - 1) (left2 n ws.length os.length o nn) ks) os
def leftKs : Nat → Int → List KE → Int
  | _, n, [] => n
  | d, n, .mk _ e :: l => if n < 0 then n else leftKs d (leftE d n e) l
def leftOs : Nat → Int → List OP → Int
  | _, n, [] => n
  | d, n, .mk _ _ t e :: l => if n < 0 then n else leftOs d (if shallowL 80 n t < 0 then shallowL 80 n t else leftE d (shallowL 80 n t) e) l
def left2 : Int → Nat → Nat → T → T → Int
  | n, a, b, o, nn => if shallow 80 (n - 1 - a - b) o < 0 then shallow 80 (n - 1 - a - b) o else shallow 80 (shallow 80 (n - 1 - a - b) o) nn
end
theorem leftE_mk (d : Nat) (n : Int) (k : Int) (o nn : T) (ws : List WE) (ks : List KE) (l : Int) (os : List OP) : leftE d n (.mk k o nn ws ks l os) = if d = 0 ∨ n - 1 - ws.length - os.length < 0 then -1 else leftOs (d - 1) (leftKs (d - 1) (left2 n ws.length os.length o nn) ks) os := by rw [leftE]
theorem left2_eq (n : Int) (a b : Nat) (o nn : T) : left2 n a b o nn = if shallow 80 (n - 1 - a - b) o < 0 then shallow 80 (n - 1 - a - b) o else shallow 80 (shallow 80 (n - 1 - a - b) o) nn := by rw [left2]
@[simp] theorem leftKs_nil (d : Nat) (n : Int) : leftKs d n [] = n := by rw [leftKs]
@[simp] theorem leftKs_cons (d : Nat) (n : Int) (x : KE) (l : List KE) : leftKs d n (x :: l) = if n < 0 then n else leftKs d (leftE d n x.e) l := by cases x; rw [leftKs]; rfl
@[simp] theorem leftOs_nil (d : Nat) (n : Int) : leftOs d n [] = n := by rw [leftOs]
@[simp] theorem leftOs_cons (d : Nat) (n : Int) (x : OP) (l : List OP) : leftOs d n (x :: l) = if n < 0 then n else leftOs d (if shallowL 80 n x.l < 0 then shallowL 80 n x.l else leftE d (shallowL 80 n x.l) x.e) l := by cases x; rw [leftOs]; rfl
mutual
def lightE : E → Bool
  | .mk _ _ _ _ ks _ os => !(decide ((lengths 0 0 os).1 > 2000) || decide ((lengths 0 0 os).2 > 2000)) && lightKs ks && lightOs os
def lightKs : List KE → Bool
  | [] => true
  | .mk _ e :: l => lightE e && lightKs l
def lightOs : List OP → Bool
  | [] => true
  | .mk _ _ _ e :: l => lightE e && lightOs l
end
theorem lightE_mk (k : Int) (o nn : T) (ws : List WE) (ks : List KE) (l : Int) (os : List OP) : lightE (.mk k o nn ws ks l os) = (!(decide ((lengths 0 0 os).1 > 2000) || decide ((lengths 0 0 os).2 > 2000)) && lightKs ks && lightOs os) := by rw [lightE]
@[simp] theorem lightKs_nil : lightKs [] = true := by rw [lightKs]
@[simp] theorem lightKs_cons (x : KE) (l : List KE) : lightKs (x :: l) = (lightE x.e && lightKs l) := by cases x; rw [lightKs]; rfl
@[simp] theorem lightOs_nil : lightOs [] = true := by rw [lightOs]
@[simp] theorem lightOs_cons (x : OP) (l : List OP) : lightOs (x :: l) = (lightE x.e && lightOs l) := by cases x; rw [lightOs]; rfl

/-! ### the tree of an edit -/
def rowT (l : List T) : T := if l = [] then T0 else .mk 9 [] l
def u64m (n : Int) : Int := n % 18446744073709551616
def treeW (w : WE) : T := .mk 1 [u64m (w.at_ + 4294967296 * w.mask), w.old, w.new] []
mutual
def treeE : E → T
  | .mk k o n ws ks l os =>
    if k = 0 then T0
    else if k = 1 then .mk 1 [u64m (k + 256 * l)] [o, n]
    else if k = 2 then .mk 1 [u64m (k + 256 * l)] [rowT' (ws.map treeW), rowT' (treeKs ks)]
    else .mk 1 [u64m (k + 256 * l)] [rowT' (treeOs l os)]
def treeKs : List KE → List T
  | [] => []
  | .mk a e :: l => .mk 1 [u64m a] [treeE e] :: treeKs l
def treeOs : Int → List OP → List T
  | _, [] => []
  | list, .mk k n t e :: l => .mk 1 [u64m (k + 256 * n)] (if k = 3 then [treeE e] else if k > 0 then [.mk list [] t] else []) :: treeOs list l
def rowT' : List T → T
  | [] => T0
  | t :: l => .mk 9 [] (t :: l)
end
theorem treeE_mk (k : Int) (o n : T) (ws : List WE) (ks : List KE) (l : Int) (os : List OP) : treeE (.mk k o n ws ks l os) =
    if k = 0 then T0
    else if k = 1 then .mk 1 [u64m (k + 256 * l)] [o, n]
    else if k = 2 then .mk 1 [u64m (k + 256 * l)] [rowT' (ws.map treeW), rowT' (treeKs ks)]
    else .mk 1 [u64m (k + 256 * l)] [rowT' (treeOs l os)] := by rw [treeE]
def treeK (x : KE) : T := .mk 1 [u64m x.at_] [treeE x.e]
def treeO (list : Int) (x : OP) : T := .mk 1 [u64m (x.kind + 256 * x.n)] (if x.kind = 3 then [treeE x.e] else if x.kind > 0 then [.mk list [] x.l] else [])
theorem treeKs_map : ∀ l, treeKs l = l.map treeK
  | [] => by rw [treeKs]; rfl
  | .mk a e :: l => by rw [treeKs, treeKs_map l]; rfl
theorem treeOs_map (list : Int) : ∀ l, treeOs list l = l.map (treeO list)
  | [] => by rw [treeOs]; rfl
  | .mk k n t e :: l => by rw [treeOs, treeOs_map list l]; rfl
@[simp] theorem rowT'_nil : rowT' [] = T0 := by rw [rowT']
@[simp] theorem rowT'_cons (t : T) (l : List T) : rowT' (t :: l) = .mk 9 [] (t :: l) := by rw [rowT']

/-! ### how many words an edit takes -/
def kids2 (a b : T) : Int := sizeP (norm a) + (if a.kind ≠ 0 then 1 else 0) + sizeP (norm b) + (if b.kind ≠ 0 then 2 - (if a.kind ≠ 0 then 1 else 0) else 0)
def wideW : Int → List WE → Int
  | x, [] => x
  | x, w :: l => wideW (if w.new ≠ 0 then 3 else if w.old ≠ 0 then max x 2 else x) l
def wideO : Int → List OP → Int
  | x, [] => x
  | x, o :: l => wideO (if o.kind = 1 ∨ o.kind = 2 ∨ o.kind = 3 then 2 else x) l
def lastAt : List KE → Int
  | [] => 0
  | [x] => x.at_
  | _ :: l => lastAt l
mutual
def nodeE : E → Int
  | .mk k o n ws ks l os =>
    if k = 1 then 1 + kids2 o n
    else if k = 2 then 1 + ((if ws = [] then 0 else 2 + ws.length * wideW 1 ws) + (if ks.isEmpty = true then 0 else 2 + ks.length * (if lastAt ks = 0 then 1 else 2) + (if ws = [] then 1 else 0) + nodeKs ks))
    else if k = 3 then 1 + (if os.isEmpty = true then 0 else 2 + os.length * wideO 1 os + nodeOs l os)
    else 0
def nodeKs : List KE → Int
  | [] => 0
  | .mk _ e :: l => nodeE e + nodeKs l
def nodeOs : Int → List OP → Int
  | _, [] => 0
  | list, .mk k n t e :: l => (if k = 1 ∨ k = 2 then sizeP (norm (.mk list [] t)) else if k = 3 then nodeE e else 0) + nodeOs list l
end
theorem nodeE_mk (k : Int) (o n : T) (ws : List WE) (ks : List KE) (l : Int) (os : List OP) : nodeE (.mk k o n ws ks l os) =
    if k = 1 then 1 + kids2 o n
    else if k = 2 then 1 + ((if ws = [] then 0 else 2 + ws.length * wideW 1 ws) + (if ks.isEmpty = true then 0 else 2 + ks.length * (if lastAt ks = 0 then 1 else 2) + (if ws = [] then 1 else 0) + nodeKs ks))
    else if k = 3 then 1 + (if os.isEmpty = true then 0 else 2 + os.length * wideO 1 os + nodeOs l os)
    else 0 := by rw [nodeE]
@[simp] theorem nodeKs_nil : nodeKs [] = 0 := by rw [nodeKs]
@[simp] theorem nodeKs_cons (x : KE) (l : List KE) : nodeKs (x :: l) = nodeE x.e + nodeKs l := by cases x; rw [nodeKs]; rfl
@[simp] theorem nodeOs_nil (list : Int) : nodeOs list [] = 0 := by rw [nodeOs]
@[simp] theorem nodeOs_cons (list : Int) (x : OP) (l : List OP) : nodeOs list (x :: l) = (if x.kind = 1 ∨ x.kind = 2 then sizeP (norm (.mk list [] x.l)) else if x.kind = 3 then nodeE x.e else 0) + nodeOs list l := by cases x; rw [nodeOs]; rfl
end Go.PL
