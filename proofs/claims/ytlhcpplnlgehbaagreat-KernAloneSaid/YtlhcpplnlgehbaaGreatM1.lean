/- Part of the proof: PBase, PExec, PRel, PWorld, PInt, PQuiet, PQuiet2, PQuiet3, PQuiet4, PQuiet5, PMaps. Names and blanks are cut short to keep within the size of a claim. -/
import Derived.Below
import Derived.Calls
import Derived.Laws.BitsLemmas
import Derived.Laws.Cells
import Derived.Laws.CopyRow
import Derived.Laws.Entries
import Derived.Laws.StructEq
import Derived.LoopTactic
import GoSem.Machine.Return
set_option linter.unusedVariables false
set_option linter.unusedSimpArgs false
namespace Go.Px
open Go
noncomputable section
inductive Tr (α:Type) where
 |nil
 |node (l:Tr α) (v:Option α) (r:Tr α)
def Tr.get {α:Type} (t:Tr α):Nat→Option α:=
 Tr.rec (motive:=fun _=>Nat→Option α) (fun _=>none) (fun _ v _ gl gr n=>Nat.rec (motive:=fun _=>Option α) v (fun n _=>Bool.rec (motive:=fun _=>Option α) (gr (Nat.div n 2)) (gl (Nat.div n 2)) (Nat.beq (Nat.mod n 2) 0)) n) t
def Tr.single {α:Type} (f:Nat):Nat→α→Tr α:=
 Nat.rec (motive:=fun _=>Nat→α→Tr α) (fun _ _=> .nil) (fun _ g n a=>Nat.rec (motive:=fun _=>Tr α) (.node .nil (some a) .nil)
  (fun n _=>Bool.rec (motive:=fun _=>Tr α) (.node .nil none (g (Nat.div n 2) a)) (.node (g (Nat.div n 2) a) none .nil) (Nat.beq (Nat.mod n 2) 0)) n) f
def Tr.set {α:Type} (t:Tr α):Nat→α→Tr α:=
 Tr.rec (motive:=fun _=>Nat→α→Tr α) (fun n a=>Tr.single (n+1) n a) (fun l v r gl gr n a=>Nat.rec (motive:=fun _=>Tr α) (Tr.node l (some a) r) (fun n _=>Bool.rec (motive:=fun _=>Tr α) (Tr.node l v (gr (Nat.div n 2) a)) (Tr.node (gl (Nat.div n 2) a) v r) (Nat.beq (Nat.mod n 2) 0)) n) t
def Tr.del {α:Type} (t:Tr α):Nat→Tr α:=
 Tr.rec (motive:=fun _=>Nat→Tr α) (fun _=> .nil) (fun l v r gl gr n=>Nat.rec (motive:=fun _=>Tr α) (Tr.node l none r) (fun n _=>Bool.rec (motive:=fun _=>Tr α) (Tr.node l v (gr (Nat.div n 2))) (Tr.node (gl (Nat.div n 2)) v r) (Nat.beq (Nat.mod n 2) 0)) n) t
def Tr.ofList {α:Type} (l:List α):Nat→Tr α→Tr α:=
 List.rec (motive:=fun _=>Nat→Tr α→Tr α) (fun _ t=>t) (fun x _ ih i t=>ih (Nat.succ i) (t.set i x)) l
section
variable {α:Type}
theorem Tr.get_nil (n:Nat):(Tr.nil:Tr α).get n=none:=rfl
theorem Tr.Q8 (l:Tr α) (v:Option α) (r:Tr α):(Tr.node l v r).get 0=v:=rfl
theorem Tr.wu (l:Tr α) (v:Option α) (r:Tr α) (n:Nat):(Tr.node l v r).get (n+1)=if n%2=0 then l.get (n/2)else r.get (n/2):=by
 show Bool.rec (motive:=fun _=>Option α) (r.get (Nat.div n 2)) (l.get (Nat.div n 2)) (Nat.beq (Nat.mod n 2) 0)=_
 by_cases h:n%2=0
 ·have h':Nat.beq (Nat.mod n 2) 0=true:=by rw [Nat.beq_eq];exact h
  rw [h',if_pos h];rfl
 have h':Nat.beq (Nat.mod n 2) 0=false:=by
  cases hb:Nat.beq (Nat.mod n 2) 0 with
  |false=>rfl
  |true=>exact absurd (Nat.eq_of_beq_eq_true hb) h
 rw [h',if_neg h];rfl
theorem Tr.E9 (l:Tr α) (v:Option α) (r:Tr α) (a:α):(Tr.node l v r).set 0 a= .node l (some a) r:=rfl
theorem Tr.E8 (l:Tr α) (v:Option α) (r:Tr α) (n:Nat) (a:α):(Tr.node l v r).set (n+1) a=if n%2=0 then .node (l.set (n/2) a) v r else .node l v (r.set (n/2) a):=by
 show Bool.rec (motive:=fun _=>Tr α) (Tr.node l v (r.set (Nat.div n 2) a)) (Tr.node (l.set (Nat.div n 2) a) v r) (Nat.beq (Nat.mod n 2) 0)=_
 by_cases h:n%2=0
 ·have h':Nat.beq (Nat.mod n 2) 0=true:=by rw [Nat.beq_eq];exact h
  rw [h',if_pos h];rfl
 have h':Nat.beq (Nat.mod n 2) 0=false:=by
  cases hb:Nat.beq (Nat.mod n 2) 0 with
  |false=>rfl
  |true=>exact absurd (Nat.eq_of_beq_eq_true hb) h
 rw [h',if_neg h];rfl
theorem Tr.C2 (l:Tr α) (v:Option α) (r:Tr α):(Tr.node l v r).del 0= .node l none r:=rfl
theorem Tr.C1 (l:Tr α) (v:Option α) (r:Tr α) (n:Nat):(Tr.node l v r).del (n+1)=if n%2=0 then .node (l.del (n/2)) v r else .node l v (r.del (n/2)):=by
 show Bool.rec (motive:=fun _=>Tr α) (Tr.node l v (r.del (Nat.div n 2))) (Tr.node (l.del (Nat.div n 2)) v r) (Nat.beq (Nat.mod n 2) 0)=_
 by_cases h:n%2=0
 ·have h':Nat.beq (Nat.mod n 2) 0=true:=by rw [Nat.beq_eq];exact h
  rw [h',if_pos h];rfl
 have h':Nat.beq (Nat.mod n 2) 0=false:=by
  cases hb:Nat.beq (Nat.mod n 2) 0 with
  |false=>rfl
  |true=>exact absurd (Nat.eq_of_beq_eq_true hb) h
 rw [h',if_neg h];rfl
theorem Tr.rn (f:Nat) (a:α):Tr.single (f+1) 0 a= .node .nil (some a) .nil:=rfl
theorem Tr.rm (f n:Nat) (a:α):Tr.single (f+1) (n+1) a=if n%2=0 then .node (Tr.single f (n/2) a) none .nil else .node .nil none (Tr.single f (n/2) a):=by
 show Bool.rec (motive:=fun _=>Tr α) (.node .nil none (Tr.single f (Nat.div n 2) a)) (.node (Tr.single f (Nat.div n 2) a) none .nil) (Nat.beq (Nat.mod n 2) 0)=_
 by_cases h:n%2=0
 ·have h':Nat.beq (Nat.mod n 2) 0=true:=by rw [Nat.beq_eq];exact h
  rw [h',if_pos h];rfl
 have h':Nat.beq (Nat.mod n 2) 0=false:=by
  cases hb:Nat.beq (Nat.mod n 2) 0 with
  |false=>rfl
  |true=>exact absurd (Nat.eq_of_beq_eq_true hb) h
 rw [h',if_neg h];rfl
theorem Tr.cQ: ∀(f n:Nat) (a:α) (m:Nat),n<f→(Tr.single f n a).get m=if m=n then some a else none:=by
 intro f
 induction f with
 |zero=>intro n a m h;omega
 |succ f ih=>
  intro n a m h
  cases n with
  |zero=>
   rw [Tr.rn]
   cases m with
   |zero=>rfl
   |succ m=>rw [Tr.wu];simp only [Tr.get_nil];split<;>simp
  |succ n=>
   rw [Tr.rm]
   by_cases hn:n%2=0
   ·rw [if_pos hn]
    cases m with
    |zero=>simp [Tr.Q8]
    |succ m=>
     rw [Tr.wu,ih _ _ _ (by omega),Tr.get_nil]
     by_cases hm:m%2=0
     ·rw [if_pos hm];by_cases e:m=n
      ·subst e;simp
      rw [if_neg (by omega),if_neg (by omega)]
     rw [if_neg hm,if_neg (by omega)]
   rw [if_neg hn]
   cases m with
   |zero=>simp [Tr.Q8]
   |succ m=>
    rw [Tr.wu,ih _ _ _ (by omega),Tr.get_nil]
    by_cases hm:m%2=0
    ·rw [if_pos hm,if_neg (by omega)]
    rw [if_neg hm];by_cases e:m=n
    ·subst e;simp
    rw [if_neg (by omega),if_neg (by omega)]
theorem Tr.yh (t:Tr α): ∀(n:Nat) (a:α) (m:Nat),(t.set n a).get m=if m=n then some a else t.get m:=by
 induction t with
 |nil=>intro n a m;show(Tr.single (n+1) n a).get m=_;rw [Tr.cQ _ _ _ _ (by omega),Tr.get_nil]
 |node l v r ihl ihr=>
  intro n a m
  cases n with
  |zero=>
   rw [Tr.E9]
   cases m with
   |zero=>rfl
   |succ m=>rw [Tr.wu,Tr.wu,if_neg (show¬m+1=0 by omega)]
  |succ n=>
   rw [Tr.E8]
   by_cases hn:n%2=0
   ·rw [if_pos hn]
    cases m with
    |zero=>simp [Tr.Q8]
    |succ m=>
     rw [Tr.wu,Tr.wu,ihl]
     by_cases hm:m%2=0
     ·rw [if_pos hm,if_pos hm];by_cases e:m=n
      ·subst e;simp
      rw [if_neg (by omega),if_neg (by omega)]
     rw [if_neg hm,if_neg hm,if_neg (by omega)]
   rw [if_neg hn]
   cases m with
   |zero=>simp [Tr.Q8]
   |succ m=>
    rw [Tr.wu,Tr.wu,ihr]
    by_cases hm:m%2=0
    ·rw [if_pos hm,if_pos hm,if_neg (by omega)]
    rw [if_neg hm,if_neg hm];by_cases e:m=n
    ·subst e;simp
    rw [if_neg (by omega),if_neg (by omega)]
theorem Tr.Qa (t:Tr α): ∀(n m:Nat),(t.del n).get m=if m=n then none else t.get m:=by
 induction t with
 |nil=>intro n m;show(Tr.nil:Tr α).get m=_;rw [Tr.get_nil];simp
 |node l v r ihl ihr=>
  intro n m
  cases n with
  |zero=>
   rw [Tr.C2]
   cases m with
   |zero=>rfl
   |succ m=>rw [Tr.wu,Tr.wu,if_neg (show¬m+1=0 by omega)]
  |succ n=>
   rw [Tr.C1]
   by_cases hn:n%2=0
   ·rw [if_pos hn]
    cases m with
    |zero=>simp [Tr.Q8]
    |succ m=>
     rw [Tr.wu,Tr.wu,ihl]
     by_cases hm:m%2=0
     ·rw [if_pos hm,if_pos hm];by_cases e:m=n
      ·subst e;simp
      rw [if_neg (by omega),if_neg (by omega)]
     rw [if_neg hm,if_neg hm,if_neg (by omega)]
   rw [if_neg hn]
   cases m with
   |zero=>simp [Tr.Q8]
   |succ m=>
    rw [Tr.wu,Tr.wu,ihr]
    by_cases hm:m%2=0
    ·rw [if_pos hm,if_pos hm,if_neg (by omega)]
    rw [if_neg hm,if_neg hm];by_cases e:m=n
    ·subst e;simp
    rw [if_neg (by omega),if_neg (by omega)]
theorem Tr.gb: ∀(l:List α) (i:Nat) (t:Tr α) (m:Nat),(Tr.ofList l i t).get m=if i≤m∧m<i+l.length then l[m-i]? else t.get m:=by
 intro l
 induction l with
 |nil=>intro i t m;show t.get m=_;rw [if_neg (by simp)]
 |cons x xs ih=>
  intro i t m
  show(Tr.ofList xs (i+1) (t.set i x)).get m=_
  rw [ih,Tr.yh]
  simp only [List.length_cons]
  by_cases h1:i+1≤m∧m<i+1+xs.length
  ·rw [if_pos h1,if_pos (by omega)]
   have:m-i=(m-(i+1))+1:=by omega
   rw [this];simp
  rw [if_neg h1]
  by_cases h2:m=i
  ·subst h2;simp
  rw [if_neg h2,if_neg (by omega)]
end
def xx:Int→Int→Bool
 | .ofNat m,.ofNat n=>Nat.blt m n
 | .ofNat _,.negSucc _=>false
 | .negSucc _,.ofNat _=>true
 | .negSucc m,.negSucc n=>Nat.blt n m
def Z9:Int→Int→Bool
 | .ofNat m,.ofNat n=>Nat.beq m n
 | .negSucc m,.negSucc n=>Nat.beq m n
 |_,_=>false
inductive SInt where
 |lit (z:Int)
 |G9 (a:Int) (i:Nat) (c:Int)
abbrev zD:=List (Int×Int)
def SInt.beq:SInt→SInt→Bool
 | .lit x,.lit y=>Z9 x y
 | .G9 a i c,.G9 b j d=>Z9 a b && Nat.beq i j && Z9 c d
 |_,_=>false
def SInt.span (F:zD):SInt→Option (Int×Int)
 | .lit z=>some (z,z)
 | .G9 a i c=>match F[i]? with
  |none=>none
  |some (lo,hi)=>bif xx a 0 then some (a*hi+c,a*lo+c)else some (a*lo+c,a*hi+c)
def SInt.mk (a:Int) (i:Nat) (c:Int):SInt:=bif Z9 a 0 then .lit c else .G9 a i c
def SInt.add:SInt→SInt→Option SInt
 | .lit x,.lit y=>some (.lit (x+y))
 | .lit x,.G9 a i c=>some (.G9 a i (x+c))
 | .G9 a i c,.lit x=>some (.G9 a i (c+x))
 | .G9 a i c,.G9 b j d=>bif Nat.beq i j then some (SInt.mk (a+b) i (c+d))else none
def SInt.sub:SInt→SInt→Option SInt
 | .lit x,.lit y=>some (.lit (x-y))
 | .lit x,.G9 a i c=>some (.G9 (-a) i (x-c))
 | .G9 a i c,.lit x=>some (.G9 a i (c-x))
 | .G9 a i c,.G9 b j d=>bif Nat.beq i j then some (SInt.mk (a-b) i (c-d))else none
def SInt.mul:SInt→SInt→Option SInt
 | .lit x,.lit y=>some (.lit (x*y))
 | .lit x,.G9 a i c=>some (SInt.mk (x*a) i (x*c))
 | .G9 a i c,.lit x=>some (SInt.mk (a*x) i (c*x))
 |_,_=>none
def SInt.lt (F:zD):SInt→SInt→Option Bool
 | .lit x,.lit y=>some (xx x y)
 |x,y=>match x.sub y with
  |none=>none
  |some d=>match d.span F with
   |none=>none
   |some (lo,hi)=>bif xx hi 0 then some true else bif xx lo 0 then none else some false
def SInt.eq (F:zD):SInt→SInt→Option Bool
 | .lit x,.lit y=>some (Z9 x y)
 |x,y=>match x.sub y with
  |none=>none
  |some d=>match d with
   | .lit z=>some (Z9 z 0)
   |d=>match d.span F with
    |none=>none
    |some (lo,hi)=>bif xx hi 0 then some false else bif xx 0 lo then some false else none
def G7:IntKind→Int
 | .i8=> -128| .i16=> -32768| .i32=> -2147483648| .i64=> -9223372036854775808|_=>0
def ZO:IntKind→Int
 | .i8=>127| .i16=>32767| .i32=>2147483647| .i64=>9223372036854775807
 | .u8=>255| .u16=>65535| .u32=>4294967295| .u64=>18446744073709551615
def UN (k:IntKind) (z:Int):Bool:=bif xx z (G7 k)then false else bif xx (ZO k) z then false else true
def SInt.wrap (F:zD) (k:IntKind):SInt→Option SInt
 | .lit z=>some (.lit (bif UN k z then z else k.wrap z))
 |x=>match x.span F with
  |none=>none
  |some (lo,hi)=>bif UN k lo && UN k hi then some x else none
inductive z0 where
 |bool (b:Bool)
 |int (k:IntKind) (n:SInt)
 |str (s:List Nat)
 |ptr (a:Option (Nat×Nat))
 |slice (a:Option (Nat×Nat)) (len:Nat) (cap:Option Nat) (es:Nat)
 |map (r:Option Nat)
 |chan (r:Option Nat)
 |func (f:FuncId) (first captured:List z0)
 |nilFunc
 |iface (t:TypeId) (v:z0)
 |nilIface
 |agg (cs:List z0)
 |tuple (vs:List z0)
def De:Option (Nat×Nat)→Option (Nat×Nat)→Bool
 |none,none=>true
 |some (a,b),some (c,d)=>Nat.beq a c && Nat.beq b d
 |_,_=>false
def sX:Option Nat→Option Nat→Bool
 |none,none=>true
 |some a,some b=>Nat.beq a b
 |_,_=>false
def wi:List Nat→List Nat→Bool
 | [],[]=>true
 |a::x,b::y=>Nat.beq a b && wi x y
 |_,_=>false
def QB:IntKind→Nat
 | .i8=>0| .i16=>1| .i32=>2| .i64=>3| .u8=>4| .u16=>5| .u32=>6| .u64=>7
def gN (a b:IntKind):Bool:=Nat.beq (QB a) (QB b)
mutual
def z0.beq:z0→z0→Bool
 | .bool a,.bool b=>a==b
 | .int k a,.int j b=>gN k j && SInt.beq a b
 | .str a,.str b=>wi a b
 | .ptr a,.ptr b=>De a b
 | .slice a l c e,.slice b m d f=>De a b && Nat.beq l m && sX c d && Nat.beq e f
 | .map a,.map b=>sX a b
 | .chan a,.chan b=>sX a b
 | .func f a b,.func g c d=>Nat.beq f g && z0.BX a c && z0.BX b d
 | .nilFunc,.nilFunc=>true
 | .iface t v,.iface u w=>Nat.beq t u && z0.beq v w
 | .nilIface,.nilIface=>true
 | .agg a,.agg b=>z0.BX a b
 | .tuple a,.tuple b=>z0.BX a b
 |_,_=>false
def z0.BX:List z0→List z0→Bool
 | [],[]=>true
 |a::x,b::y=>z0.beq a b && z0.BX x y
 |_,_=>false
end
def z0.cells:z0→List z0
 | .agg cs=>cs
 |v=> [v]
def z0.yK:z0→Bool
 | .agg _=>false
 | .tuple _=>false
 |_=>true
def yf (l:List z0):Bool:=List.rec (motive:=fun _=>Bool) true (fun v _ ih=>v.yK && ih) l
theorem vH (l:List z0):yf l=true↔ ∀u,u ∈ l→u.yK=true:=by
 induction l with
 |nil=>exact⟨fun _ u h=>by simp at h,fun _=>rfl⟩
 |cons v l ih=>
  show(v.yK && yf l)=true↔_
  rw [Bool.and_eq_true,ih]
  refine⟨fun h u hu=> ?_,fun h=>⟨h v (by simp),fun u hu=>h u (by simp [hu])⟩⟩
  rcases List.mem_cons.1 hu with rfl|hu
  ·exact h.1
  exact h.2 u hu
def uF:Nat→Value→Option z0
 |0,_=>none
 |n+1,v=>match v with
  | .bool b=>some (.bool b)
  | .int k z=>some (.int k (.lit z))
  | .string s=>some (.str (s.data.toList.map UInt8.toNat))
  | .pointer none=>some (.ptr none)
  | .slice none 0 0=>some (.slice none 0 (some 0) 0)
  | .map none=>some (.map none)
  | .chan none=>some (.chan none)
  | .func (.func f) a b=>match a.toList,b.toList with
   | [],[]=>some (.func f [] [])
   |_,_=>none
  | .nilFunc=>some .nilFunc
  | .nilIface=>some .nilIface
  | .agg cs=>match cs.toList.mapM (uF n)with
   |some zC0=>bif yf zC0 then some (.agg zC0)else none
   |none=>none
  | .tuple cs=>(cs.toList.mapM (uF n)).map .tuple
  |_=>none
inductive U7 where
 |d0|d1|d2|d3|d4|d5|d6|d7|d8|d9|d10|d11|d12|d13|d14|d15
def U7.of (j:Nat):U7:=(bif Nat.blt j 8 then(bif Nat.blt j 4 then(bif Nat.blt j 2 then(bif Nat.blt j 1 then .d0 else .d1)else(bif Nat.blt j 3 then .d2 else .d3))else(bif Nat.blt j 6 then(bif Nat.blt j 5 then .d4 else .d5)else(bif Nat.blt j 7 then .d6 else .d7)))else(bif Nat.blt j 12 then(bif Nat.blt j 10 then(bif Nat.blt j 9 then .d8 else .d9)else(bif Nat.blt j 11 then .d10 else .d11))else(bif Nat.blt j 14 then(bif Nat.blt j 13 then .d12 else .d13)else(bif Nat.blt j 15 then .d14 else .d15))))
inductive Tm where
 |nil
 |node (a0 a1 a2 a3 a4 a5 a6 a7 a8 a9 YW YX YY YZ Ya Yb:Option z0) (nx:Tm)
def Tm.nx (t:Tm):Tm:=Tm.rec (motive:=fun _=>Tm) .nil (fun _ _ _ _ _ _ _ _ _ _ _ _ _ _ _ _ nx _=>nx) t
def Tm.g0 (t:Tm):Option z0:=Tm.rec (motive:=fun _=>Option z0) none (fun a0 _ _ _ _ _ _ _ _ _ _ _ _ _ _ _ _ _=>a0) t
def Tm.g1 (t:Tm):Option z0:=Tm.rec (motive:=fun _=>Option z0) none (fun _ a1 _ _ _ _ _ _ _ _ _ _ _ _ _ _ _ _=>a1) t
def Tm.g2 (t:Tm):Option z0:=Tm.rec (motive:=fun _=>Option z0) none (fun _ _ a2 _ _ _ _ _ _ _ _ _ _ _ _ _ _ _=>a2) t
def Tm.g3 (t:Tm):Option z0:=Tm.rec (motive:=fun _=>Option z0) none (fun _ _ _ a3 _ _ _ _ _ _ _ _ _ _ _ _ _ _=>a3) t
def Tm.g4 (t:Tm):Option z0:=Tm.rec (motive:=fun _=>Option z0) none (fun _ _ _ _ a4 _ _ _ _ _ _ _ _ _ _ _ _ _=>a4) t
def Tm.g5 (t:Tm):Option z0:=Tm.rec (motive:=fun _=>Option z0) none (fun _ _ _ _ _ a5 _ _ _ _ _ _ _ _ _ _ _ _=>a5) t
def Tm.g6 (t:Tm):Option z0:=Tm.rec (motive:=fun _=>Option z0) none (fun _ _ _ _ _ _ a6 _ _ _ _ _ _ _ _ _ _ _=>a6) t
def Tm.g7 (t:Tm):Option z0:=Tm.rec (motive:=fun _=>Option z0) none (fun _ _ _ _ _ _ _ a7 _ _ _ _ _ _ _ _ _ _=>a7) t
def Tm.g8 (t:Tm):Option z0:=Tm.rec (motive:=fun _=>Option z0) none (fun _ _ _ _ _ _ _ _ a8 _ _ _ _ _ _ _ _ _=>a8) t
def Tm.g9 (t:Tm):Option z0:=Tm.rec (motive:=fun _=>Option z0) none (fun _ _ _ _ _ _ _ _ _ a9 _ _ _ _ _ _ _ _=>a9) t
def Tm.YL (t:Tm):Option z0:=Tm.rec (motive:=fun _=>Option z0) none (fun _ _ _ _ _ _ _ _ _ _ YW _ _ _ _ _ _ _=>YW) t
def Tm.kA (t:Tm):Option z0:=Tm.rec (motive:=fun _=>Option z0) none (fun _ _ _ _ _ _ _ _ _ _ _ YX _ _ _ _ _ _=>YX) t
def Tm.iN (t:Tm):Option z0:=Tm.rec (motive:=fun _=>Option z0) none (fun _ _ _ _ _ _ _ _ _ _ _ _ YY _ _ _ _ _=>YY) t
def Tm.mv (t:Tm):Option z0:=Tm.rec (motive:=fun _=>Option z0) none (fun _ _ _ _ _ _ _ _ _ _ _ _ _ YZ _ _ _ _=>YZ) t
def Tm.g14 (t:Tm):Option z0:=Tm.rec (motive:=fun _=>Option z0) none (fun _ _ _ _ _ _ _ _ _ _ _ _ _ _ Ya _ _ _=>Ya) t
def Tm.g15 (t:Tm):Option z0:=Tm.rec (motive:=fun _=>Option z0) none (fun _ _ _ _ _ _ _ _ _ _ _ _ _ _ _ Yb _ _=>Yb) t
def Tm.g (j:U7) (t:Tm):Option z0:=U7.rec (motive:=fun _=>Tm→Option z0) Tm.g0 Tm.g1 Tm.g2 Tm.g3 Tm.g4 Tm.g5 Tm.g6 Tm.g7 Tm.g8 Tm.g9 Tm.YL Tm.kA Tm.iN Tm.mv Tm.g14 Tm.g15 j t
def Tm.s0 (v:z0) (t:Tm):Tm:=Tm.rec (motive:=fun _=>Tm) .nil (fun _ a1 a2 a3 a4 a5 a6 a7 a8 a9 YW YX YY YZ Ya Yb nx _=> .node (some v) a1 a2 a3 a4 a5 a6 a7 a8 a9 YW YX YY YZ Ya Yb nx) t
def Tm.s1 (v:z0) (t:Tm):Tm:=Tm.rec (motive:=fun _=>Tm) .nil (fun a0 _ a2 a3 a4 a5 a6 a7 a8 a9 YW YX YY YZ Ya Yb nx _=> .node a0 (some v) a2 a3 a4 a5 a6 a7 a8 a9 YW YX YY YZ Ya Yb nx) t
def Tm.s2 (v:z0) (t:Tm):Tm:=Tm.rec (motive:=fun _=>Tm) .nil (fun a0 a1 _ a3 a4 a5 a6 a7 a8 a9 YW YX YY YZ Ya Yb nx _=> .node a0 a1 (some v) a3 a4 a5 a6 a7 a8 a9 YW YX YY YZ Ya Yb nx) t
def Tm.s3 (v:z0) (t:Tm):Tm:=Tm.rec (motive:=fun _=>Tm) .nil (fun a0 a1 a2 _ a4 a5 a6 a7 a8 a9 YW YX YY YZ Ya Yb nx _=> .node a0 a1 a2 (some v) a4 a5 a6 a7 a8 a9 YW YX YY YZ Ya Yb nx) t
def Tm.s4 (v:z0) (t:Tm):Tm:=Tm.rec (motive:=fun _=>Tm) .nil (fun a0 a1 a2 a3 _ a5 a6 a7 a8 a9 YW YX YY YZ Ya Yb nx _=> .node a0 a1 a2 a3 (some v) a5 a6 a7 a8 a9 YW YX YY YZ Ya Yb nx) t
def Tm.s5 (v:z0) (t:Tm):Tm:=Tm.rec (motive:=fun _=>Tm) .nil (fun a0 a1 a2 a3 a4 _ a6 a7 a8 a9 YW YX YY YZ Ya Yb nx _=> .node a0 a1 a2 a3 a4 (some v) a6 a7 a8 a9 YW YX YY YZ Ya Yb nx) t
def Tm.s6 (v:z0) (t:Tm):Tm:=Tm.rec (motive:=fun _=>Tm) .nil (fun a0 a1 a2 a3 a4 a5 _ a7 a8 a9 YW YX YY YZ Ya Yb nx _=> .node a0 a1 a2 a3 a4 a5 (some v) a7 a8 a9 YW YX YY YZ Ya Yb nx) t
def Tm.s7 (v:z0) (t:Tm):Tm:=Tm.rec (motive:=fun _=>Tm) .nil (fun a0 a1 a2 a3 a4 a5 a6 _ a8 a9 YW YX YY YZ Ya Yb nx _=> .node a0 a1 a2 a3 a4 a5 a6 (some v) a8 a9 YW YX YY YZ Ya Yb nx) t
def Tm.s8 (v:z0) (t:Tm):Tm:=Tm.rec (motive:=fun _=>Tm) .nil (fun a0 a1 a2 a3 a4 a5 a6 a7 _ a9 YW YX YY YZ Ya Yb nx _=> .node a0 a1 a2 a3 a4 a5 a6 a7 (some v) a9 YW YX YY YZ Ya Yb nx) t
def Tm.s9 (v:z0) (t:Tm):Tm:=Tm.rec (motive:=fun _=>Tm) .nil (fun a0 a1 a2 a3 a4 a5 a6 a7 a8 _ YW YX YY YZ Ya Yb nx _=> .node a0 a1 a2 a3 a4 a5 a6 a7 a8 (some v) YW YX YY YZ Ya Yb nx) t
def Tm.s10 (v:z0) (t:Tm):Tm:=Tm.rec (motive:=fun _=>Tm) .nil (fun a0 a1 a2 a3 a4 a5 a6 a7 a8 a9 _ YX YY YZ Ya Yb nx _=> .node a0 a1 a2 a3 a4 a5 a6 a7 a8 a9 (some v) YX YY YZ Ya Yb nx) t
def Tm.s11 (v:z0) (t:Tm):Tm:=Tm.rec (motive:=fun _=>Tm) .nil (fun a0 a1 a2 a3 a4 a5 a6 a7 a8 a9 YW _ YY YZ Ya Yb nx _=> .node a0 a1 a2 a3 a4 a5 a6 a7 a8 a9 YW (some v) YY YZ Ya Yb nx) t
def Tm.s12 (v:z0) (t:Tm):Tm:=Tm.rec (motive:=fun _=>Tm) .nil (fun a0 a1 a2 a3 a4 a5 a6 a7 a8 a9 YW YX _ YZ Ya Yb nx _=> .node a0 a1 a2 a3 a4 a5 a6 a7 a8 a9 YW YX (some v) YZ Ya Yb nx) t
def Tm.s13 (v:z0) (t:Tm):Tm:=Tm.rec (motive:=fun _=>Tm) .nil (fun a0 a1 a2 a3 a4 a5 a6 a7 a8 a9 YW YX YY _ Ya Yb nx _=> .node a0 a1 a2 a3 a4 a5 a6 a7 a8 a9 YW YX YY (some v) Ya Yb nx) t
def Tm.s14 (v:z0) (t:Tm):Tm:=Tm.rec (motive:=fun _=>Tm) .nil (fun a0 a1 a2 a3 a4 a5 a6 a7 a8 a9 YW YX YY YZ _ Yb nx _=> .node a0 a1 a2 a3 a4 a5 a6 a7 a8 a9 YW YX YY YZ (some v) Yb nx) t
def Tm.s15 (v:z0) (t:Tm):Tm:=Tm.rec (motive:=fun _=>Tm) .nil (fun a0 a1 a2 a3 a4 a5 a6 a7 a8 a9 YW YX YY YZ Ya _ nx _=> .node a0 a1 a2 a3 a4 a5 a6 a7 a8 a9 YW YX YY YZ Ya (some v) nx) t
def Tm.s (j:U7) (v:z0) (t:Tm):Tm:=U7.rec (motive:=fun _=>z0→Tm→Tm) Tm.s0 Tm.s1 Tm.s2 Tm.s3 Tm.s4 Tm.s5 Tm.s6 Tm.s7 Tm.s8 Tm.s9 Tm.s10 Tm.s11 Tm.s12 Tm.s13 Tm.s14 Tm.s15 j v t
def Tm.sx (f:Tm→Tm) (t:Tm):Tm:=Tm.rec (motive:=fun _=>Tm) .nil (fun a0 a1 a2 a3 a4 a5 a6 a7 a8 a9 YW YX YY YZ Ya Yb nx _=> .node a0 a1 a2 a3 a4 a5 a6 a7 a8 a9 YW YX YY YZ Ya Yb (f nx)) t
def Tm.gk (j:U7) (k:Nat):Tm→Option z0:=Nat.rec (motive:=fun _=>Tm→Option z0) (Tm.g j) (fun _ ih t=>ih t.nx) k
def Tm.sk (j:U7) (v:z0) (k:Nat):Tm→Tm:=Nat.rec (motive:=fun _=>Tm→Tm) (Tm.s j v) (fun _ ih t=>Tm.sx ih t) k
def Tm.get (i:Nat):Tm→Option z0:=Tm.gk (U7.of (Nat.mod i 16)) (Nat.div i 16)
def Tm.put (i:Nat) (v:z0):Tm→Tm:=Tm.sk (U7.of (Nat.mod i 16)) v (Nat.div i 16)
def Tm.mk (k:Nat):Tm:=Nat.rec (motive:=fun _=>Tm) .nil (fun _ ih=> .node none none none none none none none none none none none none none none none none ih) k
theorem Tm.pq (i:U7) (v:z0):Tm.s i v .nil= .nil:=by cases i<;>rfl
theorem Tm.LK (j:U7):Tm.g j .nil=none:=by cases j<;>rfl
theorem Tm.g_s (i j:U7) (v:z0) (t:Tm) (x:z0) (h:Tm.g j (Tm.s i v t)=some x):(j=i∧x=v)∨(j≠i∧Tm.g j t=some x):=by
 cases t with
 |nil=>rw [Tm.pq,Tm.LK]at h;cases h
 |node=>cases i<;>cases j<;>first|exact .inl ⟨rfl,(Option.some.inj h).symm⟩|exact .inr ⟨nofun,h⟩
theorem Tm.Rc (i j:U7) (v:z0): ∀(k l:Nat) (t:Tm) (x:z0),Tm.gk j l (Tm.sk i v k t)=some x→(l=k∧j=i∧x=v)∨(¬(l=k∧j=i)∧Tm.gk j l t=some x):=by
 intro k
 induction k with
 |zero=>
  intro l t x h
  cases l with
  |zero=>
   rcases Tm.g_s i j v t x h with⟨h1,h2⟩|⟨h1,h2⟩
   ·exact .inl ⟨rfl,h1,h2⟩
   exact .inr ⟨fun e=>h1 e.2,h2⟩
  |succ l=>
   refine .inr ⟨fun e=>by omega,?_⟩
   cases t with
   |nil=>
    have e:Tm.sk i v 0 .nil= .nil:=Tm.pq i v
    rw [e]at h;exact h
   |node=>cases i<;>exact h
 |succ k ih=>
  intro l t x h
  cases l with
  |zero=>
   refine .inr ⟨fun e=>by omega,?_⟩
   cases t with
   |nil=>exact h
   |node=>cases j<;>exact h
  |succ l=>
   cases t with
   |nil=>
    exfalso
    have key: ∀l,Tm.gk j l (Tm.nil:Tm)=none:=by
     intro l
     induction l with
     |zero=>exact Tm.LK j
     |succ l ihl=>exact ihl
    have h':Tm.gk j (l+1) (Tm.nil:Tm)=some x:=h
    rw [key]at h'
    cases h'
   |node a0 a1 a2 a3 a4 a5 a6 a7 a8 a9 YW YX YY YZ Ya Yb nx=>
    rcases ih l nx x h with⟨h1,h2⟩|⟨h1,h2⟩
    ·exact .inl ⟨by omega,h2⟩
    exact .inr ⟨fun e=>h1 ⟨by omega,e.2⟩,h2⟩
def U7.nat (d:U7):Nat:=U7.rec (motive:=fun _=>Nat) 0 1 2 3 4 5 6 7 8 9 10 11 12 13 14 15 d
theorem U7.DX: ∀(i:Nat),i<16→(U7.of i).nat=i:=by
 intro i h
 match i,h with
 |0,_|1,_|2,_|3,_|4,_|5,_|6,_|7,_|8,_|9,_|10,_|11,_|12,_|13,_|14,_|15,_=>rfl
 |n+16,h=>omega
theorem U7.DZ (i j:Nat) (hi:i<16) (hj:j<16) (h:U7.of i=U7.of j):i=j:=by
 rw [←U7.DX i hi,←U7.DX j hj,h]
theorem Tm.get_put (i j:Nat) (v:z0) (t:Tm) (x:z0) (h:Tm.get j (Tm.put i v t)=some x):(j=i∧x=v)∨(j≠i∧Tm.get j t=some x):=by
 rcases Tm.Rc _ _ v _ _ t x h with⟨h1,h2,h3⟩|⟨h1,h2⟩
 ·have e1:j%16=i%16:=U7.DZ _ _ (Nat.mod_lt _ (by decide)) (Nat.mod_lt _ (by decide)) h2
  have e2:j/16=i/16:=h1
  exact .inl ⟨by omega,h3⟩
 exact .inr ⟨fun e=>h1 (by subst e;exact⟨rfl,rfl⟩),h2⟩
theorem Tm.Mt (i j:U7) (v:z0) (t:Tm) (h:j≠i):Tm.g j (Tm.s i v t)=Tm.g j t:=by
 cases t with
 |nil=>rw [Tm.pq]
 |node=>cases i<;>cases j<;>first|rfl|exact absurd rfl h
theorem Tm.CR (i j:U7) (v:z0): ∀(k l:Nat) (t:Tm),¬(l=k∧j=i)→Tm.gk j l (Tm.sk i v k t)=Tm.gk j l t:=by
 intro k
 induction k with
 |zero=>
  intro l t h
  cases l with
  |zero=>exact Tm.Mt i j v t (fun e=>h ⟨rfl,e⟩)
  |succ l=>
   cases t with
   |nil=>
    have e:Tm.sk i v 0 .nil= .nil:=Tm.pq i v
    rw [e]
   |node=>cases i<;>rfl
 |succ k ih=>
  intro l t h
  cases l with
  |zero=>
   cases t with
   |nil=>rfl
   |node=>cases j<;>rfl
  |succ l=>
   cases t with
   |nil=>rfl
   |node a0 a1 a2 a3 a4 a5 a6 a7 a8 a9 YW YX YY YZ Ya Yb nx=>exact ih l nx (fun e=>h ⟨by omega,e.2⟩)
theorem Tm.cP (i j:Nat) (v:z0) (t:Tm) (h:j≠i):Tm.get j (Tm.put i v t)=Tm.get j t:=by
 refine Tm.CR _ _ v _ _ t fun e=>h ?_
 have e1:j%16=i%16:=U7.DZ _ _ (Nat.mod_lt _ (by decide)) (Nat.mod_lt _ (by decide)) e.2
 have e2:j/16=i/16:=e.1
 omega
theorem Tm.Mu (k i:Nat):Tm.get i (Tm.mk k)=none:=by
 have key: ∀(l k:Nat) (j:U7),Tm.gk j l (Tm.mk k)=none:=by
  intro l
  induction l with
  |zero=>intro k j;cases k<;>cases j<;>rfl
  |succ l ih=>
   intro k j
   cases k with
   |zero=>exact ih 0 j
   |succ k=>exact ih k j
 exact key _ _ _
structure Entry where
 key:z0
 val:z0
 born:Nat
inductive jS where
 |cells (rw:Bool) (c:Tr z0) (n:Nat)
 |map (es:List Entry) (clock:Nat)
 |chan (cap:Nat) (buf:List z0) (s r:Nat)
structure Hp where
 t:Tr jS
 next:Nat
def Hp.alloc (H:Hp) (o:jS):Hp:=⟨H.t.set H.next o,H.next+1⟩
def Hp.put (H:Hp) (i:Nat) (o:jS):Hp:=⟨H.t.set i o,H.next⟩
def ZD (c:Tr z0) (i n:Nat):Option (List z0):=
 Nat.rec (motive:=fun _=>Nat→Option (List z0)) (fun _=>some [])
  (fun _ ih i=>Option.rec (motive:=fun _=>Option (List z0)) none (fun v=>Option.rec (motive:=fun _=>Option (List z0)) none (fun vs=>some (v::vs)) (ih (Nat.succ i))) (c.get i)) n i
def jf (c:Tr z0) (i:Nat) (vs:List z0):Tr z0:=
 List.rec (motive:=fun _=>Tr z0→Nat→Tr z0) (fun c _=>c) (fun v _ ih c i=>ih (c.set i v) (Nat.succ i)) vs c i
def Hp.gP (H:Hp) (i off:Nat):Option z0:=match H.t.get i with
 |some (.cells _ c _)=>c.get off
 |_=>none
def Hp.read (H:Hp) (i off n:Nat):Option (List z0):=match H.t.get i with
 |some (.cells _ c _)=>ZD c off n
 |_=>none
def Hp.Q0 (H:Hp) (i off:Nat) (v:z0):Option Hp:=match H.t.get i with
 |some (.cells true c m)=>bif Nat.blt off m && v.yK then some (H.put i (.cells true (c.set off v) m))else none
 |_=>none
def Hp.write (H:Hp) (i off:Nat) (vs:List z0):Option Hp:=match H.t.get i with
 |some (.cells true c m)=>bif Nat.ble (off+vs.length) m && yf vs then some (H.put i (.cells true (jf c off vs) m))else none
 |_=>none
def Hp.p6 (H:Hp) (i:Nat):Option Nat:=match H.t.get i with
 |some (.cells true _ n)=>some n
 |_=>none
def Hp.row (H:Hp) (i:Nat):Option Nat:=match H.t.get i with
 |some (.cells _ _ n)=>some n
 |_=>none
def Hp.gy (H:Hp) (i:Nat):Option (List Entry×Nat):=match H.t.get i with
 |some (.map es k)=>some (es,k)
 |_=>none
end
noncomputable section
def yj (P:Program) (t:TypeId):Option TypeDesc:=P.underlying t
def yb (P:Program) (t:TypeId):Option Nat:=match P.info? t with
 |some i=>some i.size
 |none=>none
def bytesOf (P:Program) (t:TypeId):Option Nat:=match P.info? t with
 |some i=>some i.bytes
 |none=>none
def zeroOf (P:Program) (t:TypeId):Option z0:=match P.info? t with
 |some i=>match i.zero with
  |some v=>uF 4 v
  |none=>none
 |none=>none
def Y3 (P:Program) (t:TypeId):Option Bool:=match yj P t with
 |some (.struct _)=>some true
 |some (.array _ _)=>some true
 |some _=>some false
 |none=>none
def z2N (t:Nat) (T:Tm):Option z0:=Tm.get t T
def No (v:Value) (_T:Tm):Option z0:=uF 4 v
def TG (f:FuncId) (_T:Tm):Option z0:=some (.func f [] [])
def IH (_:Nat) (_T:Tm):Option z0:=none
def zK (T:Tm) (x:Operand):Option z0:=Operand.rec (motive:=fun _=>Tm→Option z0) z2N No IH TG x T
def wQ (T:Tm):List Operand→Option (List z0)
 | []=>some []
 |x::xs=>match zK T x with
  |none=>none
  |some v=>match wQ T xs with
   |none=>none
   |some vs=>some (v::vs)
inductive zN where
 |val (v:z0) (H:Hp)
 |call (f:FuncId) (args:List z0)
def zN.qK (v:Option z0) (H:Hp):Option zN:=match v with
 |some v=>some (.val v H)
 |none=>none
def unit:z0:= .tuple []
def bH (P:Program) (t:TypeId) (H:Hp) (i off:Nat):Option z0:=match Y3 P t with
 |some true=>match yb P t with
  |some n=>match H.read i off n with
   |some cs=>some (.agg cs)
   |none=>none
  |none=>none
 |some false=>H.gP i off
 |none=>none
def bp (P:Program) (t:TypeId) (H:Hp) (i off:Nat) (v:z0):Option Hp:=match yb P t with
 |some 1=>match v.cells with
  | [v]=>H.Q0 i off v
  |_=>none
 |some n=>bif Nat.beq v.cells.length n then H.write i off v.cells else none
 |none=>none
def newRow (cs:List z0):jS:= .cells true (Tr.ofList cs 0 .nil) cs.length
def wy (H:Hp) (cs:List z0):Hp:=H.alloc (newRow cs)
def takeN:Nat→List z0→List z0
 |0,_=> []
 |n+1,l=>match l with
  | []=> []
  |x::xs=>x::takeN n xs
def pP:Nat→List z0→List z0
 |0,l=>l
 |n+1,l=>match l with
  | []=> []
  |_::xs=>pP n xs
def Y9 (P:Program) (t:TypeId) (cs:List z0) (off:Nat):Option z0:=match Y3 P t with
 |some true=>match yb P t with
  |some n=>bif Nat.ble (off+n) cs.length then some (.agg (takeN n (pP off cs)))else none
  |none=>none
 |some false=>cs[off]?
 |none=>none
def placesOf (P:Program):List Field→Option (List (Nat×Nat))
 | []=>some []
 |f::fs=>match yb P f.type with
  |none=>none
  |some n=>match placesOf P fs with
   |none=>none
   |some l=>some ((f.offset,n)::l)
def u4:List z0→Nat→List z0→List z0
 | [],_,_=> []
 |c::cs,n+1,vs=>c::u4 cs n vs
 |c::cs,0,vs=>match vs with
  | []=>c::cs
  |v::vs=>v::u4 cs 0 vs
def Q7 (place:Nat→Option (Nat×Nat)) (cells:List z0):List (Nat×z0)→Option (List z0)
 | []=>some cells
 |(i,v)::rest=>match place i with
  |none=>none
  |some (off,size)=>bif Nat.beq v.cells.length size && Nat.ble (off+size) cells.length then Q7 place (u4 cells off v.cells) rest else none
def z0.isTuple:z0→Bool
 | .tuple _=>true
 |_=>false
def partsOf (T:Tm):List (Nat×Operand)→Option (List (Nat×z0))
 | []=>some []
 |(i,x)::rest=>match zK T x with
  |none=>none
  |some v=>bif v.isTuple then none else match partsOf T rest with
   |none=>none
   |some l=>some ((i,v)::l)
def yR (cs:List z0):Nat→List z0
 |0=> []
 |n+1=>cs++yR cs n
def z5P:z0→Option Int
 | .int _ (.lit z)=>some z
 |_=>none
def uj:z0→Option Nat
 | .int _ (.lit (.ofNat n))=>some n
 |_=>none
def WU (n:Nat):z0:= .int .i64 (.lit (.ofNat n))
def yi:Nat:=1048576
def Wj (eq:TypeId→z0→z0→Option Bool) (P:Program) (xs ys:List z0):List Field→Option Bool
 | []=>some true
 |f::fs=>bif f.name== "_" then none else match Y9 P f.type xs f.offset,Y9 P f.type ys f.offset with
  |some a,some b=>match eq f.type a b with
   |some true=>Wj eq P xs ys fs
   |some false=>some false
   |none=>none
  |_,_=>none
def QY (eq:z0→z0→Option Bool) (P:Program) (e:TypeId) (n:Nat) (xs ys:List z0):Nat→Nat→Option Bool
 |0,_=>some true
 |k+1,i=>match Y9 P e xs (i*n),Y9 P e ys (i*n)with
  |some a,some b=>match eq a b with
   |some true=>QY eq P e n xs ys k (i+1)
   |some false=>some false
   |none=>none
  |_,_=>none
def zk:List Nat→Bool
 | []=>true
 |x::xs=>Nat.blt x 256 && zk xs
def VA (P:Program) (F:zD) (H:Hp):Nat→TypeId→z0→z0→Option Bool
 |0,_,_,_=>none
 |d+1,t,x,y=>match x,y with
  | .bool a,.bool b=>match yj P t with
   |some .bool=>some (a==b)
   |_=>none
  | .int k a,.int j b=>match yj P t with
   |some (.int _)=>bif gN k j then SInt.eq F a b else none
   |_=>none
  | .str a,.str b=>match yj P t with
   |some .string=>bif wi a b then some true else bif zk a && zk b then some false else none
   |_=>none
  | .ptr a,.ptr b=>match yj P t with
   |some (.pointer e)=>match a,b with
    |none,none=>some true
    |none,some _=>some false
    |some _,none=>some false
    |some (i,o),some (j,p)=>match yb P e with
     |some 0=>none
     |some _=>bif Nat.beq i j then some (Nat.beq o p)else match H.p6 i,H.p6 j with
      |some _,some _=>some false
      |_,_=>none
     |none=>none
   |_=>none
  | .nilIface,.nilIface=>match yj P t with
   |some (.interface _)=>some true
   |_=>none
  | .nilIface,.iface _ _=>match yj P t with
   |some (.interface _)=>some false
   |_=>none
  | .iface _ _,.nilIface=>match yj P t with
   |some (.interface _)=>some false
   |_=>none
  | .slice none _ _ _,.slice b _ _ _=>match yj P t with
   |some (.slice _)=>some b.isNone
   |_=>none
  | .slice (some _) _ _ _,.slice none _ _ _=>match yj P t with
   |some (.slice _)=>some false
   |_=>none
  | .map none,.map b=>match yj P t with
   |some (.map _ _)=>some b.isNone
   |_=>none
  | .map (some _),.map none=>match yj P t with
   |some (.map _ _)=>some false
   |_=>none
  | .nilFunc,.nilFunc=>match yj P t with
   |some (.func _ _ _)=>some true
   |_=>none
  | .nilFunc,.func _ _ _=>match yj P t with
   |some (.func _ _ _)=>some false
   |_=>none
  | .func _ _ _,.nilFunc=>match yj P t with
   |some (.func _ _ _)=>some false
   |_=>none
  | .agg xs,.agg ys=>match yj P t with
   |some (.struct fs)=>bif P.stoodInHeld t then none else Wj (VA P F H d) P xs ys fs.toList
   |some (.array len e)=>match yb P e with
    |some n=>QY (VA P F H d e) P e n xs ys len 0
    |none=>none
   |_=>none
  |_,_=>none
def VQ (op:BinOp) (a b:Nat):Option Nat:=match op with
 | .and=>some (Nat.land a b)
 | .or=>some (Nat.lor a b)
 | .xor=>some (Nat.xor a b)
 | .andNot=>some (Nat.xor a (Nat.land a b))
 |_=>none
def jR (F:zD) (op:BinOp) (k:IntKind) (x y:SInt):Option z0:=
 let num (r:Option SInt):Option z0:=match r with
  |none=>none
  |some r=>match SInt.wrap F k r with
   |none=>none
   |some r=>some (.int k r)
 let Ag (r:Option Bool) (neg:Bool):Option z0:=match r with
  |none=>none
  |some b=>some (.bool (xor b neg))
 match op with
 | .add=>num (x.add y)
 | .sub=>num (x.sub y)
 | .mul=>num (x.mul y)
 | .quo=>match x,y with
  | .lit a,.lit b=>bif Z9 b 0 then none else num (some (.lit (Int.tdiv a b)))
  |_,_=>none
 | .rem=>match x,y with
  | .lit a,.lit b=>bif Z9 b 0 then none else some (.int k (.lit (Int.tmod a b)))
  |_,_=>none
 | .eql=>Ag (SInt.eq F x y) false
 | .neq=>Ag (SInt.eq F x y) true
 | .lss=>Ag (SInt.lt F x y) false
 | .gtr=>Ag (SInt.lt F y x) false
 | .leq=>Ag (SInt.lt F y x) true
 | .geq=>Ag (SInt.lt F x y) true
 | .and| .or| .xor| .andNot=>match x,y with
  | .lit (.ofNat a),.lit (.ofNat b)=>bif UN k (.ofNat a) && UN k (.ofNat b)then(match VQ op a b with
   |some r=>some (.int k (.lit (.ofNat r)))
   |none=>none)else none
  |_,_=>none
 |_=>none
def Yp (F:zD) (op:BinOp) (k:IntKind) (x y:SInt):Option z0:=match x,y with
 | .lit (.ofNat a),.lit (.ofNat b)=>match op with
  | .shl=>bif Nat.ble b 64 then(match SInt.wrap F k (.lit (.ofNat (a*2^(Nat.min b k.bits))))with
   |some r=>some (.int k r)
   |none=>none)else none
  | .shr=>bif Nat.ble b 64 then some (.int k (.lit (.ofNat (Nat.div a (2^(Nat.min b k.bits))))))else none
  |_=>none
 |_,_=>none
def mh (P:Program) (t:TypeId) (c:Bool):z0→z0→Bool
 | .nilIface,.nilIface=>c
 | .agg _,.agg _=> !P.eqGuardType P.depth t
 |_,_=>true
def vI (P:Program) (F:zD) (H:Hp) (op:BinOp) (t:TypeId) (c:Bool) (x y:z0):Option z0:=match x,y with
 | .int k a,.int j b=>match op with
  | .shl=>Yp F op k a b
  | .shr=>Yp F op k a b
  |_=>bif gN k j then jR F op k a b else none
 | .str a,.str b=>match op with
  | .add=>bif zk a && zk b && Nat.ble (a.length+b.length) yi then some (.str (a++b))else none
  | .eql=>bif wi a b then some (.bool true)else bif zk a && zk b then some (.bool false)else none
  | .neq=>bif wi a b then some (.bool false)else bif zk a && zk b then some (.bool true)else none
  |_=>none
 |_,_=>match op with
  | .eql=>bif mh P t c x y then(match VA P F H 60 t x y with
   |some b=>some (.bool b)
   |none=>none)else none
  | .neq=>bif mh P t c x y then(match VA P F H 60 t x y with
   |some b=>some (.bool (!b))
   |none=>none)else none
  |_=>none
def Xk (F:zD) (op:UnOp) (x:z0):Option z0:=match op,x with
 | .not,.bool b=>some (.bool (!b))
 | .neg,.int k a=>match SInt.sub (.lit 0) a with
  |some r=>match SInt.wrap F k r with
   |some r=>some (.int k r)
   |none=>none
  |none=>none
 | .xor,.int k (.lit z)=>bif UN k z then(match k with
  | .u8| .u16| .u32| .u64=>some (.int k (.lit (ZO k-z)))
  |_=>none)else none
 |_,_=>none
def Bu (P:Program) (F:zD) (src dst:TypeId) (x:z0):Option z0:=match x with
 | .int _ a=>match yj P src,yj P dst with
  |some (.int _),some (.int k)=>match SInt.wrap F k a with
   |some r=>some (.int k r)
   |none=>none
  |_,_=>none
 | .str s=>match yj P src,yj P dst with
  |some .string,some .string=>some (.str s)
  |_,_=>none
 |_=>none
def vP (x:Option z0) (Xu y0:Nat):Option Nat:=match x with
 |none=>some Xu
 |some v=>match uj v with
  |some n=>bif Nat.ble n y0 then some n else none
  |none=>none
def vJ (len:Nat) (m:Option Nat):Nat:=match m with
 |some c=>c
 |none=>len
def Y0 (len:Nat) (cap:Option Nat) (mx:Option z0):Option (Option Nat):=match mx with
 |none=>some cap
 |some v=>match uj v with
  |some n=>bif Nat.ble n (vJ len cap)then some (some n)else none
  |none=>none
def qQ (len:Nat) (cap:Option Nat) (lo hi mx:Option z0):Option (Nat×Nat×Option Nat):=
 match mx,hi with
 |some _,none=>none
 |_,_=>
  match Y0 len cap mx with
  |none=>none
  |some m=>match vP hi len (vJ len m)with
   |none=>none
   |some h=>match vP lo 0 h with
    |none=>none
    |some l=>some (l,h,m)
def vf (P:Program) (t:TypeId) (H:Hp) (x:z0) (lo hi mx:Option z0):Option z0:=match x with
 | .slice a len cap es=>match yj P t with
  |some (.slice e)=>match yb P e,qQ len cap lo hi mx with
   |some size,some (l,h,m)=>match a,m with
    |none,some c=>some (.slice none (h-l) (some (c-l)) es)
    |none,none=>none
    |some (i,off),some c=>bif Nat.beq es size then(bif Nat.beq c l then some (.slice (some (i,off)) (h-l) (some (c-l)) es)
     else some (.slice (some (i,off+l*size)) (h-l) (some (c-l)) es))else none
    |some (i,off),none=>bif Nat.beq es size then(bif Nat.beq len l then some (.slice (some (i,off+l*size)) 0 none es)
     else some (.slice (some (i,off+l*size)) (h-l) none es))else none
   |_,_=>none
  |_=>none
 | .ptr (some (i,off))=>match yj P t with
  |some (.array n e)=>match yb P e,qQ n (some n) lo hi mx with
   |some size,some (l,h,some c)=>match H.row i with
    |some rows=>bif Nat.ble (off+n*size) rows then some (.slice (some (i,bif Nat.beq c l then off else off+l*size)) (h-l) (some (c-l)) size)else none
    |none=>none
   |_,_=>none
  |_=>none
 | .str s=>match yj P t with
  |some .string=>match mx with
   |some _=>none
   |none=>bif zk s then(match qQ s.length (some s.length) lo hi none with
    |some (l,h,_)=>some (.str ((s.drop l).take (h-l)))
    |none=>none)else none
  |_=>none
 |_=>none
def Yu (H:Hp) (size n:Nat):z0→Option (List z0)
 | .slice (some (i,off)) len _ _=>bif Nat.beq n 0 then some []else bif Nat.ble n len then H.read i off (n*size)else none
 | .slice none _ _ _=>bif Nat.beq n 0 then some []else none
 | .str s=>bif zk s && (Nat.beq size 1 && Nat.ble n s.length)then some (takeN n (s.map fun b=> .int .u8 (.lit (.ofNat b))))else none
 |_=>none
def sD:z0→Option Nat
 | .slice _ n _ _=>some n
 | .str s=>bif zk s then some s.length else none
 |_=>none
def kR (P:Program) (e:TypeId) (H:Hp) (s x:z0):Option zN:=match s,x with
 | .slice none 0 (some 0) _,.int _ (.lit m)=>match yb P e,bytesOf P e,zeroOf P e with
  |some size,some bytes,some z=>
   bif Nat.beq z.cells.length size && Nat.blt 0 size && Nat.blt 0 m.toNat && Nat.ble m.toNat 1024 && Nat.ble bytes yi && yf z.cells then
    some (.val (.slice (some (H.next,0)) m.toNat none size) (wy H (yR z.cells m.toNat)))else none
  |_,_,_=>none
 |_,_=>none
def uS (P:Program) (types:List TypeId) (H:Hp) (args:List z0):Option zN:=match types,args with
 |t::xt::_,s::x::_=>match yj P t,yj P xt with
  |some (.slice e),some (.slice _)=>match yb P e,bytesOf P e,zeroOf P e,s,sD x with
   |some size,some bytes,some z,.slice a len cap es,some n=>
    bif Nat.beq z.cells.length size && Nat.ble (len+n) yi && Nat.ble bytes yi then
     match Yu H size n x with
     |none=>none
     |some new=>match a,cap with
      |none,_=>bif Nat.beq n 0 then some (.val s H)else
       some (.val (.slice (some (H.next,0)) (len+n) none size) (wy H new))
      |some (i,off),none=>bif Nat.beq n 0 then some (.val s H)else bif Nat.beq es size then(match H.p6 i with
       |some rows=>bif Nat.ble (off+len*size) rows then(match H.read i off (len*size)with
        |some j6=>some (.val (.slice (some (H.next,0)) (len+n) none size) (wy ⟨H.t.del i,H.next⟩ (j6++new)))
        |none=>none)else none
       |none=>none)else none
      |some (i,off),some c=>bif Nat.beq n 0 then some (.val s H)else bif Nat.ble (len+n) c then(match H.write i (off+len*size) new with
       |some H=>some (.val (.slice (some (i,off)) (len+n) (some c) es) H)
       |none=>none)
       else bif Nat.beq len 0 then some (.val (.slice (some (H.next,0)) (len+n) none size) (wy H new))else match H.read i off (len*size)with
        |some j6=>some (.val (.slice (some (H.next,0)) (len+n) none size) (wy H (j6++new)))
        |none=>none
    else none
   |_,_,_,_,_=>none
  |some (.slice e),some (.int _)=>kR P e H s x
  |_,_=>none
 |_,_=>none
def ka:z0→z0→Bool
 | .bool a,.bool b=>a==b
 | .int k (.lit a),.int j (.lit b)=>gN k j && Z9 a b
 |_,_=>false
def Wk:List z0→List z0→Bool
 | [],[]=>true
 |a::x,b::y=>ka a b && Wk x y
 |_,_=>false
def Y4:z0→z0→Bool
 | .int k (.lit a),.int j (.lit b)=>gN k j && Z9 a b
 | .bool a,.bool b=>a==b
 | .str a,.str b=>wi a b && zk a
 | .agg a,.agg b=>Wk a b
 |_,_=>false
def vM (P:Program) (t:TypeId) (k:z0):Bool:=match k with
 | .int _ _=>match yj P t with
  |some (.int _)=>true
  |_=>false
 | .bool _=>match yj P t with
  |some .bool=>true
  |_=>false
 | .str _=>match yj P t with
  |some .string=>true
  |_=>false
 | .agg cs=>match yj P t with
  |some (.struct fs)=>fs.toList.all fun f=>match Y9 P f.type cs f.offset with
   |some (.int _ _)=>match yj P f.type with
    |some (.int _)=>true
    |_=>false
   |some (.bool _)=>match yj P f.type with
    |some .bool=>true
    |_=>false
   |_=>false
  |_=>false
 |_=>false
def jA (eq:z0→z0→Option Bool) (k:z0):List Entry→Nat→Option (Option (Nat×Entry))
 | [],_=>some none
 |e::es,i=>match eq k e.key with
  |some true=>some (some (i,e))
  |some false=>jA eq k es (i+1)
  |none=>none
def tO (P:Program) (F:zD) (t:TypeId) (H:Hp) (x k:z0) (ok:Bool):Option z0:=match yj P t with
 |some (.map kt et)=>bif vM P kt k then(match zeroOf P et with
  |none=>none
  |some z=>match(match x with
   | .map none=>some []
   | .map (some r)=>match H.gy r with
    |some (es,_)=>some es
    |none=>none
   |_=>none)with
   |none=>none
   |some es=>match jA (VA P F H 3 kt) k es 0 with
    |some (some (_,e))=>some (bif ok then .tuple [e.val,.bool true]else e.val)
    |some none=>some (bif ok then .tuple [z,.bool false]else z)
    |none=>none)else none
 |_=>none
def Vg (P:Program) (F:zD) (t:TypeId) (H:Hp) (m k v:z0):Option Hp:=match yj P t with
 |some (.map kt _)=>bif vM P kt k then(match m with
  | .map (some r)=>match H.gy r with
   |some (es,clock)=>match jA (VA P F H 3 kt) k es 0 with
    |some (some (i,e))=>bif Y4 k e.key then some (H.put r (.map (es.set i ⟨k,v,e.born⟩) clock))else none
    |some none=>some (H.put r (.map (es++ [⟨k,v,clock⟩]) (clock+1)))
    |none=>none
   |none=>none
  |_=>none)else none
 |_=>none
def Uq (P:Program) (F:zD) (t:TypeId) (H:Hp) (m k:z0):Option Hp:=match yj P t with
 |some (.map kt _)=>bif vM P kt k then(match m with
  | .map (some r)=>match H.gy r with
   |some (es,clock)=>match jA (VA P F H 3 kt) k es 0 with
    |some (some (i,_))=>some (H.put r (.map (es.eraseIdx i) clock))
    |some none=>some (H.put r (.map es clock))
    |none=>none
   |none=>none
  | .map none=>some H
  |_=>none)else none
 |_=>none
def I7 (F:zD):z0→z0→Option z0
 | .int k x,.int _ y=>match SInt.lt F y x with
  |some true=>some (.int k y)
  |some false=>some (.int k x)
  |none=>none
 |_,_=>none
def I5 (F:zD):z0→z0→Option z0
 | .int k x,.int _ y=>match SInt.lt F x y with
  |some true=>some (.int k y)
  |some false=>some (.int k x)
  |none=>none
 |_,_=>none
def xg (f:z0→z0→Option z0):z0→List z0→Option z0
 |v,[]=>some v
 |v,x::xs=>match f v x with
  |some w=>xg f w xs
  |none=>none
def ix (P:Program) (H:Hp) (t:TypeId) (x:z0):Option z0:=match yj P t,x with
 |some .string,.str s=>bif zk s then some (WU s.length)else none
 |some (.array n _),_=>some (WU n)
 |some (.slice _),.slice _ n _ _=>some (WU n)
 |some (.map _ _),.map none=>some (WU 0)
 |some (.map _ _),.map (some r)=>match H.gy r with
  |some (es,_)=>some (WU es.length)
  |none=>none
 |some (.chan _ _),.chan (some r)=>match H.t.get r with
  |some (.chan _ buf _ _)=>some (WU buf.length)
  |_=>none
 |_,_=>none
def yc (P:Program) (F:zD) (b:Builtin) (types:List TypeId) (H:Hp) (args:List z0):Option zN:=match b with
 | .append=>uS P types H args
 | .len=>match types,args with
  |t::_,x::_=>zN.qK (ix P H t x) H
  |_,_=>none
 | .cap=>match types,args with
  |t::_,.slice _ _ (some c) _::_=>match yj P t with
   |some (.slice _)=>some (.val (WU c) H)
   |_=>none
  |_,_=>none
 | .min=>match args with
  |x::xs=>zN.qK (xg (I7 F) x xs) H
  | []=>none
 | .max=>match args with
  |x::xs=>zN.qK (xg (I5 F) x xs) H
  | []=>none
 | .delete=>match types,args with
  |t::_,m::k::_=>match Uq P F t H m k with
   |some H=>some (.val unit H)
   |none=>none
  |_,_=>none
 | .copy=>match types,args with
  |t::_,.slice (some (i,off)) n _ _::x::_=>match yj P t with
   |some (.slice e)=>match yb P e,sD x with
    |some size,some m=>
     let k:=Nat.min m n
     match Yu H size k x with
     |some cs=>match H.write i off cs with
      |some H=>some (.val (WU k) H)
      |none=>none
     |none=>none
    |_,_=>none
   |_=>none
  |_,_=>none
 | .clear=>match types,args with
  |t::_,.slice (some (i,off)) n _ _::_=>match yj P t with
   |some (.slice e)=>match zeroOf P e with
    |some z=>match H.write i off (yR z.cells n)with
     |some H=>some (.val unit H)
     |none=>none
    |none=>none
   |_=>none
  |t::_,.slice none _ _ _::_=>match yj P t with
   |some (.slice _)=>some (.val unit H)
   |_=>none
  |_,_=>none
 |_=>none
abbrev OV:=Option z0
def xc (c:OV) (a b:OV) (H:Hp):Option zN:=match c with
 |some (.bool c)=>zN.qK (bif c then a else b) H
 |_=>none
def gS (z:OV) (H:Hp):Option zN:=match z with
 |some z=>bif z.isTuple then none else some (.val (.ptr (some (H.next,0))) (wy H z.cells))
 |none=>none
def QW (P:Program) (t:TypeId) (z:OV) (l:Option (List (Nat×z0))) (H:Hp):Option zN:=match z,l with
 |some z,some l=>match yj P t with
  |some (.struct fs)=>bif z.isTuple then none else match placesOf P fs.toList with
   |some pl=>match Q7 (fun i=>pl[i]?) z.cells l with
    |some cs=>some (.val (.agg cs) H)
    |none=>none
   |none=>none
  |some (.array _ e)=>bif z.isTuple then none else match yb P e with
   |some size=>match Q7 (fun i=>some (i*size,size)) z.cells l with
    |some cs=>some (.val (.agg cs) H)
    |none=>none
   |none=>none
  |_=>none
 |_,_=>none
def vw (P:Program) (t:TypeId) (len:Nat) (l:Option (List (Nat×z0))) (H:Hp):Option zN:=match yj P t,l with
 |some (.slice e),some l=>match yb P e,zeroOf P e with
  |some size,some z=>bif Nat.beq z.cells.length size && Nat.ble (len*size) 65536 && !z.isTuple then
   match Q7 (fun i=>some (i*size,size)) (yR z.cells len) l with
   |some cs=>some (.val (.slice (some (H.next,0)) len (some len) size) (wy H cs))
   |none=>none
   else none
  |_,_=>none
 |_,_=>none
def Gi (P:Program) (t:TypeId) (x:OV) (H:Hp):Option zN:=match x with
 |some (.ptr (some (i,off)))=>zN.qK (bH P t H i off) H
 |_=>none
def VF (P:Program) (t:TypeId) (x y:OV) (H:Hp):Option zN:=match x,y with
 |some (.ptr (some (i,off))),some v=>match bp P t H i off v with
  |some H=>some (.val unit H)
  |none=>none
 |_,_=>none
def Zz (x:OV) (H:Hp):Option zN:=match x with
 |some (.ptr (some a))=>some (.val (.ptr (some a)) H)
 |some (.func f a b)=>some (.val (.func f a b) H)
 |_=>none
def eH:Operand→Bool
 | .const _=>true
 |_=>false
def pN (P:Program) (F:zD) (op:BinOp) (t:TypeId) (c:Bool) (x y:OV) (H:Hp):Option zN:=match x,y with
 |some a,some b=>zN.qK (vI P F H op t c a b) H
 |_,_=>none
def cC (F:zD) (op:UnOp) (x:OV) (H:Hp):Option zN:=match x with
 |some a=>zN.qK (Xk F op a) H
 |none=>none
def xX (P:Program) (F:zD) (s d:TypeId) (x:OV) (H:Hp):Option zN:=match x with
 |some a=>zN.qK (Bu P F s d a) H
 |none=>none
def VD (P:Program) (t:TypeId) (x:OV) (H:Hp):Option zN:=match x,yj P t with
 |some _,some (.interface _)=>none
 |some v,some _=>some (.val (.iface t v) H)
 |_,_=>none
def xY (f:Fn) (a b:Option (List z0)) (H:Hp):Option zN:=match f,a,b with
 | .func f,some a,some b=>some (.val (.func f a b) H)
 |_,_,_=>none
def gq (P:Program) (t:TypeId) (r:Option OV) (H:Hp):Option zN:=match yj P t with
 |some (.map _ _)=>match r with
  |none=>some (.val (.map (some H.next)) (H.alloc (.map [] 0)))
  |some (some (.int _ _))=>some (.val (.map (some H.next)) (H.alloc (.map [] 0)))
  |_=>none
 |_=>none
def jT (P:Program) (t:TypeId) (x:OV) (H:Hp):Option zN:=match yj P t,x with
 |some (.chan _ e),some v=>match uj v,bytesOf P e with
  |some n,some b=>bif Nat.ble n 1024 && Nat.ble b yi then some (.val (.chan (some H.next)) (H.alloc (.chan n [] 0 0)))else none
  |_,_=>none
 |_,_=>none
def gu (P:Program) (t:TypeId) (x y:OV) (H:Hp):Option zN:=match yj P t,x,y with
 |some (.slice e),some a,some b=>match uj a,uj b,yb P e,zeroOf P e,bytesOf P e with
  |some l,some c,some size,some z,some bytes=>
   bif Nat.beq z.cells.length size && Nat.ble c 65536 && Nat.ble l c && Nat.ble bytes yi && !z.isTuple then
    some (.val (.slice (some (H.next,0)) l (some c) size) (wy H (yR z.cells c)))
   else none
  |_,_,_,_,_=>none
 |_,_,_=>none
def wW (P:Program) (t:TypeId) (x:OV) (lo hi mx:Option OV) (H:Hp):Option zN:=match x,lo,hi,mx with
 |_,some none,_,_=>none
 |_,_,some none,_=>none
 |_,_,_,some none=>none
 |some v,lo,hi,mx=>zN.qK (vf P t H v (lo.getD none) (hi.getD none) (mx.getD none)) H
 |none,_,_,_=>none
def gp (P:Program) (t:TypeId) (x:OV) (n:Nat) (H:Hp):Option zN:=match x,yj P t with
 |some (.ptr (some (i,off))),some (.struct fs)=>match fs[n]? with
  |some f=>match yb P f.type with
   |some 0=>none
   |some _=>some (.val (.ptr (some (i,off+f.offset))) H)
   |none=>none
  |none=>none
 |_,_=>none
def VC (P:Program) (t:TypeId) (x:OV) (n:Nat) (H:Hp):Option zN:=match x,yj P t with
 |some (.agg cs),some (.struct fs)=>match fs[n]? with
  |some f=>zN.qK (Y9 P f.type cs f.offset) H
  |none=>none
 |_,_=>none
def ud (P:Program) (t:TypeId) (x y:OV) (H:Hp):Option zN:=match x,y,yj P t with
 |some (.ptr (some (i,off))),some v,some (.array len e)=>match uj v,yb P e with
  |some n,some size=>bif Nat.blt n len then some (.val (.ptr (some (i,off+n*size))) H)else none
  |_,_=>none
 |some (.slice (some (i,off)) len _ _),some v,some (.slice e)=>match uj v,yb P e with
  |some n,some size=>bif Nat.blt n len then some (.val (.ptr (some (i,off+n*size))) H)else none
  |_,_=>none
 |_,_,_=>none
def VE (P:Program) (t:TypeId) (x y:OV) (H:Hp):Option zN:=match x,y,yj P t with
 |some (.agg cs),some v,some (.array len e)=>match uj v,yb P e with
  |some n,some size=>bif Nat.blt n len then zN.qK (Y9 P e cs (n*size)) H else none
  |_,_=>none
 |some (.str s),some v,some .string=>match uj v with
  |some n=>bif zk s then(match s[n]? with
   |some b=>some (.val (.int .u8 (.lit (.ofNat b))) H)
   |none=>none)else none
  |none=>none
 |_,_,_=>none
def Wh (P:Program) (F:zD) (t:TypeId) (x k:OV) (ok:Bool) (H:Hp):Option zN:=match x,k with
 |some m,some k=>zN.qK (tO P F t H m k ok) H
 |_,_=>none
def gK (P:Program) (F:zD) (t:TypeId) (m k x:OV) (H:Hp):Option zN:=match m,k,x with
 |some m,some k,some v=>match Vg P F t H m k v with
  |some H=>some (.val unit H)
  |none=>none
 |_,_,_=>none
def QX (P:Program) (F:zD) (t:TypeId) (m k:OV) (H:Hp):Option zN:=match m,k,yj P t with
 |some (.map (some r)),some k,some (.map kt et)=>bif vM P kt k then(match H.gy r,zeroOf P et with
  |some (es,clock),some z=>match jA (VA P F H 3 kt) k es 0 with
   |some (some (i,e))=>bif Y4 k e.key then some (.val (.tuple [e.val,WU e.born]) (H.put r (.map (es.set i ⟨k,e.val,e.born⟩) clock)))else none
   |some none=>some (.val (.tuple [z,WU clock]) (H.put r (.map (es++ [⟨k,z,clock⟩]) (clock+1))))
   |none=>none
  |_,_=>none)else none
 |_,_,_=>none
def mQ (b:Nat):List Entry→Nat→Option (Nat×Entry)
 | [],_=>none
 |e::es,i=>bif Nat.beq e.born b then some (i,e)else mQ b es (i+1)
def ZZ (m st x:OV) (H:Hp):Option zN:=match m,st,x with
 |some (.map (some r)),some s,some v=>match uj s,H.gy r with
  |some b,some (es,clock)=>match mQ b es 0 with
   |some (i,e)=>some (.val unit (H.put r (.map (es.set i ⟨e.key,v,e.born⟩) clock)))
   |none=>none
  |_,_=>none
 |_,_,_=>none
def Zg (x:OV) (n:Nat) (H:Hp):Option zN:=match x with
 |some (.tuple vs)=>zN.qK (vs[n]?) H
 |_=>none
def doAssert (P:Program) (x:OV) (asserted:TypeId) (ok:Bool) (H:Hp):Option zN:=match x,yj P asserted with
 |some _,some (.interface _)=>none
 |some .nilIface,some _=>bif ok then(match zeroOf P asserted with
  |some z=>some (.val (.tuple [z,.bool false]) H)
  |none=>none)else none
 |some (.iface t v),some _=>bif Nat.beq t asserted then some (.val (bif ok then .tuple [v,.bool true]else v) H)else none
 |_,_=>none
def yq (P:Program) (F:zD) (b:Builtin) (types:List TypeId) (args:Option (List z0)) (H:Hp):Option zN:=match args with
 |some args=>yc P F b types H args
 |none=>none
def me (f:OV) (args:Option (List z0)):Option zN:=match f,args with
 |some (.func f a b),some args=>some (.call f (a++args++b))
 |_,_=>none
def yd (P:Program) (F:zD) (T:Tm) (H:Hp) (o:Oper):Option zN:=match o.op with
 | .move x=>zN.qK (zK T x) H
 | .assign x=>zN.qK (zK T x) H
 | .pick c a b=>xc (zK T c) (zK T a) (zK T b) H
 | .alloc t=>gS (zeroOf P t) H
 | .box _ x=>gS (zK T x) H
 | .build t parts=>QW P t (zeroOf P t) (partsOf T parts.toList) H
 | .buildSlice t len parts=>vw P t len (partsOf T parts.toList) H
 | .load t x=>Gi P t (zK T x) H
 | .store t x y=>VF P t (zK T x) (zK T y) H
 | .nilCheck x=>Zz (zK T x) H
 | .binOp op t x y _=>pN P F op t (eH x||eH y) (zK T x) (zK T y) H
 | .unOp op _ x=>cC F op (zK T x) H
 | .convert s d x=>xX P F s d (zK T x) H
 | .makeInterface t x=>VD P t (zK T x) H
 | .makeFunc f a b=>xY f (wQ T a.toList) (wQ T b.toList) H
 | .makeMap t r=>gq P t (r.map (zK T)) H
 | .makeChan t x=>jT P t (zK T x) H
 | .makeSlice t x y=>gu P t (zK T x) (zK T y) H
 | .slice t x lo hi mx=>wW P t (zK T x) (lo.map (zK T)) (hi.map (zK T)) (mx.map (zK T)) H
 | .fieldAddr t x n=>gp P t (zK T x) n H
 | .field t x n=>VC P t (zK T x) n H
 | .indexAddr t x y=>ud P t (zK T x) (zK T y) H
 | .index t x y=>VE P t (zK T x) (zK T y) H
 | .lookup t x k ok=>Wh P F t (zK T x) (zK T k) ok H
 | .mapUpdate t m k x=>gK P F t (zK T m) (zK T k) (zK T x) H
 | .insert t m k x=>gK P F t (zK T m) (zK T k) (zK T x) H
 | .mapEntry t m k=>QX P F t (zK T m) (zK T k) H
 | .entryStore _ m st x=>ZZ (zK T m) (zK T st) (zK T x) H
 | .extract x n=>Zg (zK T x) n H
 | .typeAssert x _ asserted ok=>doAssert P (zK T x) asserted ok H
 | .call c=>match c.callee with
  | .builtin b=>yq P F b c.argTypes.toList (wQ T c.args.toList) H
  | .value f=>me (zK T f) (wQ T c.args.toList)
  | .invoke _ _=>none
 |_=>none
def Oj (f:Operand) (c:Call) (_P:Program) (_F:zD) (T:Tm) (_H:Hp):Option zN:=me (zK T f) (wQ T c.args.toList)
def Oi (_r:Operand) (_m:String) (_c:Call) (_P:Program) (_F:zD) (_T:Tm) (_H:Hp):Option zN:=none
def Oh (b:Builtin) (c:Call) (P:Program) (F:zD) (T:Tm) (H:Hp):Option zN:=yq P F b c.argTypes.toList (wQ T c.args.toList) H
def X6 (x:Operand) (_P:Program) (_F:zD) (T:Tm) (H:Hp):Option zN:=zN.qK (zK T x) H
def Ks (x:Operand) (_P:Program) (_F:zD) (T:Tm) (H:Hp):Option zN:=zN.qK (zK T x) H
def X8 (c:Operand) (a:Operand) (b:Operand) (_P:Program) (_F:zD) (T:Tm) (H:Hp):Option zN:=xc (zK T c) (zK T a) (zK T b) H
def Oe (t:TypeId) (P:Program) (_F:zD) (_T:Tm) (H:Hp):Option zN:=gS (zeroOf P t) H
def z3F (_t:TypeId) (x:Operand) (_P:Program) (_F:zD) (T:Tm) (H:Hp):Option zN:=gS (zK T x) H
def Og (t:TypeId) (parts:Array (Nat×Operand)) (P:Program) (_F:zD) (T:Tm) (H:Hp):Option zN:=QW P t (zeroOf P t) (partsOf T parts.toList) H
def lK (t:TypeId) (len:Nat) (parts:Array (Nat×Operand)) (P:Program) (_F:zD) (T:Tm) (H:Hp):Option zN:=vw P t len (partsOf T parts.toList) H
def Kt (t:TypeId) (m:Operand) (k:Operand) (x:Operand) (P:Program) (F:zD) (T:Tm) (H:Hp):Option zN:=gK P F t (zK T m) (zK T k) (zK T x) H
def X5 (t:TypeId) (x:Operand) (P:Program) (_F:zD) (T:Tm) (H:Hp):Option zN:=Gi P t (zK T x) H
def Ow (t:TypeId) (x:Operand) (y:Operand) (P:Program) (_F:zD) (T:Tm) (H:Hp):Option zN:=VF P t (zK T x) (zK T y) H
def Ou (_g:Nat) (_P:Program) (_F:zD) (_T:Tm) (_H:Hp):Option zN:=none
def Ox (_g:Nat) (_P:Program) (_F:zD) (_T:Tm) (_H:Hp):Option zN:=none
def Aq (x:Operand) (_P:Program) (_F:zD) (T:Tm) (H:Hp):Option zN:=Zz (zK T x) H
def Of (op:BinOp) (t:TypeId) (x:Operand) (y:Operand) (_yt:TypeId) (P:Program) (F:zD) (T:Tm) (H:Hp):Option zN:=pN P F op t (eH x||eH y) (zK T x) (zK T y) H
def XB (op:UnOp) (_t:TypeId) (x:Operand) (_P:Program) (F:zD) (T:Tm) (H:Hp):Option zN:=cC F op (zK T x) H
def F6 (s:TypeId) (d:TypeId) (x:Operand) (P:Program) (F:zD) (T:Tm) (H:Hp):Option zN:=xX P F s d (zK T x) H
def V7 (_d:TypeId) (_x:Operand) (_P:Program) (_F:zD) (_T:Tm) (_H:Hp):Option zN:=none
def dI (t:TypeId) (x:Operand) (P:Program) (_F:zD) (T:Tm) (H:Hp):Option zN:=VD P t (zK T x) H
def Ao (f:Fn) (a:Array Operand) (b:Array Operand) (_P:Program) (_F:zD) (T:Tm) (H:Hp):Option zN:=xY f (wQ T a.toList) (wQ T b.toList) H
def F8 (t:TypeId) (r:Option Operand) (P:Program) (_F:zD) (T:Tm) (H:Hp):Option zN:=gq P t (r.map (zK T)) H
def An (t:TypeId) (x:Operand) (P:Program) (_F:zD) (T:Tm) (H:Hp):Option zN:=jT P t (zK T x) H
def aT (t:TypeId) (x:Operand) (y:Operand) (P:Program) (_F:zD) (T:Tm) (H:Hp):Option zN:=gu P t (zK T x) (zK T y) H
def Ov (t:TypeId) (x:Operand) (lo:Option Operand) (hi:Option Operand) (mx:Option Operand) (P:Program) (_F:zD) (T:Tm) (H:Hp):Option zN:=wW P t (zK T x) (lo.map (zK T)) (hi.map (zK T)) (mx.map (zK T)) H
def aR (t:TypeId) (x:Operand) (n:Nat) (P:Program) (_F:zD) (T:Tm) (H:Hp):Option zN:=gp P t (zK T x) n H
def On (t:TypeId) (x:Operand) (n:Nat) (P:Program) (_F:zD) (T:Tm) (H:Hp):Option zN:=VC P t (zK T x) n H
def aS (t:TypeId) (x:Operand) (y:Operand) (P:Program) (_F:zD) (T:Tm) (H:Hp):Option zN:=ud P t (zK T x) (zK T y) H
def Oo (t:TypeId) (x:Operand) (y:Operand) (P:Program) (_F:zD) (T:Tm) (H:Hp):Option zN:=VE P t (zK T x) (zK T y) H
def Ku (t:TypeId) (x:Operand) (k:Operand) (ok:Bool) (P:Program) (F:zD) (T:Tm) (H:Hp):Option zN:=Wh P F t (zK T x) (zK T k) ok H
def aU (t:TypeId) (m:Operand) (k:Operand) (x:Operand) (P:Program) (F:zD) (T:Tm) (H:Hp):Option zN:=gK P F t (zK T m) (zK T k) (zK T x) H
def Ap (t:TypeId) (m:Operand) (k:Operand) (P:Program) (F:zD) (T:Tm) (H:Hp):Option zN:=QX P F t (zK T m) (zK T k) H
def lL (_t:TypeId) (m:Operand) (st:Operand) (x:Operand) (_P:Program) (_F:zD) (T:Tm) (H:Hp):Option zN:=ZZ (zK T m) (zK T st) (zK T x) H
def Ot (_t:TypeId) (_x:Operand) (_P:Program) (_F:zD) (_T:Tm) (_H:Hp):Option zN:=none
def X7 (_i:Operand) (_s:Bool) (_P:Program) (_F:zD) (_T:Tm) (_H:Hp):Option zN:=none
def Om (_i:Operand) (_P:Program) (_F:zD) (_T:Tm) (_H:Hp):Option zN:=none
def lM (x:Operand) (_xt:TypeId) (asserted:TypeId) (ok:Bool) (P:Program) (_F:zD) (T:Tm) (H:Hp):Option zN:=doAssert P (zK T x) asserted ok H
def F7 (x:Operand) (n:Nat) (_P:Program) (_F:zD) (T:Tm) (H:Hp):Option zN:=Zg (zK T x) n H
def X4 (c:Call) (P:Program) (F:zD) (T:Tm) (H:Hp):Option zN:=Callee.rec (motive:=fun _=>Call→Program→zD→Tm→Hp→Option zN) Oj Oi Oh c.callee c P F T H
def xGo (_c:Call) (_P:Program) (_F:zD) (_T:Tm) (_H:Hp):Option zN:=none
def Ol (_c:Call) (_P:Program) (_F:zD) (_T:Tm) (_H:Hp):Option zN:=none
def Oq (_x:Operand) (_P:Program) (_F:zD) (_T:Tm) (_H:Hp):Option zN:=none
def XA (_c:Operand) (_x:Operand) (_P:Program) (_F:zD) (_T:Tm) (_H:Hp):Option zN:=none
def X9 (_t:TypeId) (_c:Operand) (_o:Bool) (_P:Program) (_F:zD) (_T:Tm) (_H:Hp):Option zN:=none
def Kv (_c:Array SelectCase) (_b:Bool) (_P:Program) (_F:zD) (_T:Tm) (_H:Hp):Option zN:=none
def WE (P:Program) (F:zD) (T:Tm) (H:Hp) (o:Oper):Option zN:=
 Op.rec (motive:=fun _=>Program→zD→Tm→Hp→Option zN) X6 Ks X8 Oe z3F Og lK Kt X5 Ow Ou Ox Aq Of XB F6 V7 dI Ao F8 An aT Ov aR On aS Oo Ku aU Ap lL Ot X7 Om lM F7 X4 xGo Ol Oq XA X9 Kv o.op P F T H
theorem Yc (P:Program) (F:zD) (T:Tm) (H:Hp) (o:Oper):WE P F T H o=yd P F T H o:=by
 obtain⟨dst,op,ty,pos,after,guard⟩:=o
 cases op<;>try rfl
 case call c=>
  obtain⟨callee,args,Oz⟩:=c
  cases callee<;>rfl
end
end Go.Px
namespace Go.Px
open Go Go.RowKit
structure qw where
 ρ:Nat→Int
 uD:Nat→Option (Nat×Nat×Nat)
 GX:Nat:=0
def SInt.ev (ρ:Nat→Int):SInt→Int
 | .lit z=>z
 | .G9 a i c=>a*ρ i+c
def Py:Nat→Nat→List UInt8
 |0,_=> []
 |f+1,n=>if n<10 then [UInt8.ofNat (48+n)]else Py f (n/10)++ [UInt8.ofNat (48+n%10)]
def dec (z:Int):List UInt8:=Py (z.toNat+1) z.toNat
def Yr (ρ:Nat→Int):List Nat→List UInt8
 | []=> []
 |n::l=>(if n<256 then [UInt8.ofNat n]else dec (ρ (n-256)))++Yr ρ l
def dJ (F:zD) (ρ:Nat→Int):Prop:= ∀(i:Nat) (lo hi:Int),F[i]? =some (lo,hi)→lo≤ρ i∧ρ i≤hi
inductive zS (V:qw):z0→Value→Prop
 |bool (b:Bool):zS V (.bool b) (.bool b)
 |int (k:IntKind) (s:SInt):zS V (.int k s) (.int k (s.ev V.ρ))
 |str (l:List Nat) (s:ByteArray) (h:s.data.toList=Yr V.ρ l):zS V (.str l) (.string s)
 |O7:zS V (.ptr none) (.pointer none)
 |ptr (id off b base S:Nat) (h:V.uD id=some (b,base,S)):zS V (.ptr (some (id,off))) (.pointer (some ⟨b,base+off,none⟩))
 |YD (es:Nat):zS V (.slice none 0 (some 0) es) (.slice none 0 0)
 |slice (id off len:Nat) (cap:Option Nat) (es b base S c:Nat) (h:V.uD id=some (b,base,S)) (hl:len≤c) (hc: ∀k,cap=some k→c=k)
  (hS:off+c*es≤S):zS V (.slice (some (id,off)) len cap es) (.slice (some ⟨b,base+off,none⟩) len c)
 |uA (id off es b base S o c:Nat) (cap:Option Nat) (h:V.uD id=some (b,base,S)) (hc: ∀k,cap=some k→k=0∧c=0) (ho:base≤o) (hS:o+c*es≤base+S):
  zS V (.slice (some (id,off)) 0 cap es) (.slice (some ⟨b,o,none⟩) 0 c)
 |vU (id off len:Nat) (cap:Option Nat) (es b base S c:Nat) (a:Addr) (h:V.uD id=some (b,base,S)) (hb:b<V.GX) (hl:len≤c) (hc: ∀k,cap=some k→c=k) (ha:(0<len∨ ∃k,cap=some k∧0<k)→a=⟨b,base+off,none⟩):
  zS V (.slice (some (id,off)) len cap es) (.slice (some a) len c)
 |Nj:zS V (.map none) (.map none)
 |map (id b base S:Nat) (h:V.uD id=some (b,base,S)):zS V (.map (some id)) (.map (some b))
 |Bn:zS V (.chan none) (.chan none)
 |chan (id b base S:Nat) (h:V.uD id=some (b,base,S)):zS V (.chan (some id)) (.chan (some b))
 |func (f:FuncId) (a c:List z0) (x y:Array Value) (ha:a.length=x.size) (hc:c.length=y.size)
  (hx: ∀(i:Nat) u v,a[i]? =some u→x[i]? =some v→zS V u v) (hy: ∀(i:Nat) u v,c[i]? =some u→y[i]? =some v→zS V u v):
  zS V (.func f a c) (.func (.func f) x y)
 |nilFunc:zS V .nilFunc .nilFunc
 |iface (t:TypeId) (v:z0) (w:Value) (h:zS V v w):zS V (.iface t v) (.iface t w)
 |nilIface:zS V .nilIface .nilIface
 |agg (a:List z0) (x:Array Value) (ha:a.length=x.size) (hx: ∀(i:Nat) u v,a[i]? =some u→x[i]? =some v→zS V u v)
  (hc: ∀u,u ∈ a→u.yK=true):zS V (.agg a) (.agg x)
 |tuple (a:List z0) (x:Array Value) (ha:a.length=x.size) (hx: ∀(i:Nat) u v,a[i]? =some u→x[i]? =some v→zS V u v):zS V (.tuple a) (.tuple x)
inductive yw (V:qw):List z0→List Value→Prop
 |nil:yw V [] []
 |cons {u v us vs} (h:zS V u v) (t:yw V us vs):yw V (u::us) (v::vs)
theorem yw.length {V:qw} {us:List z0} {vs:List Value} (h:yw V us vs):us.length=vs.length:=by
 induction h with
 |nil=>rfl
 |cons _ _ ih=>simp [ih]
theorem yw.at {V:qw} {us:List z0} {vs:List Value} (h:yw V us vs): ∀(i:Nat) u,us[i]? =some u→ ∃v,vs[i]? =some v∧zS V u v:=by
 induction h with
 |nil=>intro i u e;simp at e
 |cons h _ ih=>
  intro i u e
  cases i with
  |zero=>simp at e;subst e;exact⟨_,by simp,h⟩
  |succ i=>simp at e;obtain⟨v,h1,h2⟩:=ih i u e;exact⟨v,by simpa using h1,h2⟩
theorem yw.of {V:qw} : ∀ {us:List z0} {vs:List Value},us.length=vs.length→(∀(i:Nat) u v,us[i]? =some u→vs[i]? =some v→zS V u v)→yw V us vs:=by
 intro us
 induction us with
 |nil=>intro vs h _;cases vs with
  |nil=>exact .nil
  |cons=>simp at h
 |cons u us ih=>intro vs h hh;cases vs with
  |nil=>simp at h
  |cons v vs=>exact .cons (hh 0 u v (by simp) (by simp)) (ih (by simpa using h) fun i a b ha hb=>hh (i+1) a b (by simpa using ha) (by simpa using hb))
theorem yw.ofArray {V:qw} {us:List z0} {x:Array Value} (h:us.length=x.size) (hh: ∀(i:Nat) u v,us[i]? =some u→x[i]? =some v→zS V u v):yw V us x.toList:=
 yw.of (by simpa using h) fun i u v hu hv=>hh i u v hu (by simpa using hv)
theorem yw.append {V:qw} {us PR:List z0} {vs vs':List Value} (h:yw V us vs) (h':yw V PR vs'):yw V (us++PR) (vs++vs'):=by
 induction h with
 |nil=>exact h'
 |cons h _ ih=>exact .cons h ih
theorem yw.pt {V:qw} {us:List z0} {vs:List Value} (h:yw V us vs): ∀(i:Nat) u v,us[i]? =some u→vs[i]? =some v→zS V u v:=by
 intro i u v hu hv
 obtain⟨v',h1,h2⟩:=h.at i u hu
 rw [hv]at h1
 cases h1
 exact h2
theorem zS.Pa {V:qw} {us:List z0} {vs:List Value} (h:yw V us vs) (hc: ∀u,u ∈ us→u.yK=true):zS V (.agg us) (.agg vs.toArray):=
 .agg us vs.toArray (by simpa using h.length) (fun i u v hu hv=>h.pt i u v hu (by simpa using hv)) hc
theorem zS.UZ {V:qw} {us:List z0} {vs:List Value} (h:yw V us vs):zS V (.tuple us) (.tuple vs.toArray):=
 .tuple us vs.toArray (by simpa using h.length) (fun i u v hu hv=>h.pt i u v hu (by simpa using hv))
structure qw.le (V V':qw):Prop where
 ρ:V'.ρ=V.ρ
 uD: ∀id x,V.uD id=some x→V'.uD id=some x
 GX:V'.GX=V.GX
theorem qw.le.refl (V:qw):V.le V:=⟨rfl,fun _ _ h=>h,rfl⟩
theorem qw.le.trans {V V' MN:qw} (h:V.le V') (h':V'.le MN):V.le MN:=⟨h'.ρ.trans h.ρ,fun id x e=>h'.uD id x (h.uD id x e),h'.GX.trans h.GX⟩
theorem zS.mono {V V':qw} (hV:V.le V') {a:z0} {v:Value} (h:zS V a v):zS V' a v:=by
 induction h with
 |bool b=>exact .bool b
 |int k s=>rw [←hV.ρ];exact .int k s
 |str l s h=>exact .str l s (by rw [hV.ρ];exact h)
 |O7=>exact .O7
 |ptr id off b base S h=>exact .ptr id off b base S (hV.uD _ _ h)
 |YD es=>exact .YD es
 |slice id off len cap es b base S c h hl hc hS=>exact .slice id off len cap es b base S c (hV.uD _ _ h) hl hc hS
 |uA id off es b base S o c cap h hc ho hS=>exact .uA id off es b base S o c cap (hV.uD _ _ h) hc ho hS
 |vU id off len cap es b base S c a h hb hl hc ha=>exact .vU id off len cap es b base S c a (hV.uD _ _ h) (by rw [hV.GX];exact hb) hl hc ha
 |Nj=>exact .Nj
 |map id b base S h=>exact .map id b base S (hV.uD _ _ h)
 |Bn=>exact .Bn
 |chan id b base S h=>exact .chan id b base S (hV.uD _ _ h)
 |func f a c x y ha hc _ _ ihx ihy=>exact .func f a c x y ha hc ihx ihy
 |nilFunc=>exact .nilFunc
 |iface t v w _ ih=>exact .iface t v w ih
 |nilIface=>exact .nilIface
 |agg a x ha _ hc ih=>exact .agg a x ha ih hc
 |tuple a x ha _ ih=>exact .tuple a x ha ih
theorem yw.mono {V V':qw} (hV:V.le V') {us:List z0} {vs:List Value} (h:yw V us vs):yw V' us vs:=by
 induction h with
 |nil=>exact .nil
 |cons h _ ih=>exact .cons (h.mono hV) ih
theorem zS.cells {V:qw} {a:z0} {v:Value} (h:zS V a v):yw V a.cells v.cells.toList:=by
 cases h<;>first
  |(refine yw.ofArray ?_ ?_<;>assumption)
  |(refine .cons ?_ .nil;constructor<;>assumption)
theorem zS.gV {V:qw} {a:z0} {v:Value} (h:zS V a v):v.cells.size=a.cells.length:=by
 have:=h.cells.length
 simpa using this.symm
def Value.yK:Value→Bool
 | .agg _=>false
 | .tuple _=>false
 |_=>true
theorem zS.yK {V:qw} {a:z0} {v:Value} (h:zS V a v):Value.yK v=a.yK:=by cases h<;>rfl
structure ME (V:qw) (e:Entry) (m:MapEntry):Prop where
 key:zS V e.key m.key
 val:zS V e.val m.val
 born:m.born=e.born
inductive QO (V:qw) (B:Nat):jS→Nat→Nat→Nat→Obj→Prop
 |cells (rw:Bool) (c:Tr z0) (n b base S:Nat) (arr:Array Value) (el:TypeId) (fz:Nat×Nat) (aw:rw=true→fz=(0,0)∧B≤b) (HU:B≤b→fz=(0,0))
  (hS:rw=true→base+S≤arr.size) (hn:n≤S) (Vl:rw=true→ ∀i,i<n→ ∃a,c.get i=some a)
  (hc: ∀i a,c.get i=some a→i<n∧a.yK=true∧ ∃v,arr[base+i]? =some v∧zS V a v):QO V B (.cells rw c n) b base S (.cells arr el fz)
 |map (es:List Entry) (clock b base S:Nat) (ms:Array MapEntry) (hB:B≤b) (hl:es.length=ms.size)
  (he: ∀(i:Nat) e m,es[i]? =some e→ms[i]? =some m→ME V e m):QO V B (.map es clock) b base S (.map ms clock)
 |chan (cap:Nat) (buf:List z0) (s r b base S:Nat) (x:Array Value) (hB:B≤b) (hx:yw V buf x.toList):QO V B (.chan cap buf s r) b base S (.chan cap x false s r false)
theorem QO.mono {V V':qw} (hV:V.le V') {B:Nat} {o:jS} {b base S:Nat} {obj:Obj} (h:QO V B o b base S obj):QO V' B o b base S obj:=by
 cases h with
 |cells rw c n b base S arr el fz aw HU hS hn Vl hc=>
  exact .cells rw c n b base S arr el fz aw HU hS hn Vl fun i a h=>let ⟨h1,h2,v,h3,h4⟩:=hc i a h;⟨h1,h2,v,h3,h4.mono hV⟩
 |map es clock b base S ms hB hl he=>exact .map es clock b base S ms hB hl fun i e m h1 h2=>let ⟨a,c,d⟩:=he i e m h1 h2;⟨a.mono hV,c.mono hV,d⟩
 |chan cap buf s r b base S x hB hx=>exact .chan cap buf s r b base S x hB (hx.mono hV)
structure yD (B:Nat) (w0:World) (V:qw) (H:Hp) (w:World):Prop where
 below:Below B w0 w
 size:B≤w.heap.size
 next: ∀id,H.next≤id→V.uD id=none∧H.t.get id=none
 lt: ∀id b base S,V.uD id=some (b,base,S)→b<w.heap.size
 obj: ∀id o b base S,H.t.get id=some o→V.uD id=some (b,base,S)→ ∃x,w.heap[b]? =some x∧QO V B o b base S x
 inj: ∀id nZ o o' b b' base vW S S',H.t.get id=some o→H.t.get nZ=some o'→V.uD id=some (b,base,S)→V.uD nZ=some (b',vW,S')→id≠nZ→b≠b'∨b<B
 fz: ∀b arr el z,B≤b→w.heap[b]? =some (.cells arr el z)→z=(0,0)
 GX:V.GX≤B
def ZX (V:qw) (T:Tm) (tmps:Array Value):Prop:= ∀i a,Tm.get i T=some a→ ∃v,tmps[i]? =some v∧zS V a v
theorem ZX.mono {V V':qw} (hV:V.le V') {T:Tm} {x:Array Value} (h:ZX V T x):ZX V' T x:=
 fun i a e=>let ⟨v,h1,h2⟩:=h i a e;⟨v,h1,h2.mono hV⟩
theorem ZX.put {V:qw} {T:Tm} {x:Array Value} (h:ZX V T x) {d:Nat} {a:z0} {v:Value} (hv:zS V a v) (hd:d<x.size):ZX V (Tm.put d a T) (x.setIfInBounds d v):=by
 intro i b e
 rcases Tm.get_put d i a T b e with⟨rfl,rfl⟩|⟨wY,e⟩
 ·exact⟨v,by simp [hd],hv⟩
 obtain⟨u,h1,h2⟩:=h i b e
 exact⟨u,by rw [Array.getElem?_setIfInBounds_ne (Ne.symm wY)];exact h1,h2⟩
theorem jb (V:qw):zS V unit undef:= .tuple [] #[] rfl (fun i u v h=>by simp at h)
theorem rF {V:qw} {n:Nat} (ih: ∀(v:Value) (a:z0),uF n v=some a→zS V a v):
 ∀(l:List Value) (zC0:List z0),l.mapM (uF n)=some zC0→yw V zC0 l:=by
 intro l
 induction l with
 |nil=>intro zC0 h;simp at h;subst h;exact .nil
 |cons v l ihl=>
  intro zC0 h
  rw [List.mapM_cons]at h
  cases h1:uF n v with
  |none=>rw [h1]at h;cases h
  |some a=>
   cases h2:l.mapM (uF n)with
   |none=>rw [h1,h2]at h;cases h
   |some as'=>
    rw [h1,h2]at h
    cases h
    exact .cons (ih v a h1) (ihl as' h2)
theorem rv (ρ:Nat→Int) (l:List UInt8):Yr ρ (l.map UInt8.toNat)=l:=by
 induction l with
 |nil=>rfl
 |cons b l ih=>
  have hb:b.toNat<256:=b.toNat_lt
  simp only [List.map_cons,Yr,if_pos hb,ih,UInt8.ofNat_toNat,List.cons_append,List.nil_append]
theorem ZY (V:qw): ∀(n:Nat) (v:Value) (a:z0),uF n v=some a→zS V a v:=by
 intro n
 induction n with
 |zero=>intro v a h;cases h
 |succ n ih=>
  intro v a h
  unfold uF at h
  split at h<;>try (cases h;done)
  ·cases h;exact .bool _
  ·cases h;exact .int _ (.lit _)
  ·cases h;exact .str _ _ (rv _ _).symm
  ·cases h;exact .O7
  ·cases h;exact .YD 0
  ·cases h;exact .Nj
  ·cases h;exact .Bn
  ·rename_i f x y
   split at h<;>try (cases h;done)
   rename_i hx hy
   cases h
   have ex:x= #[]:=by cases x;simp at hx;simp [hx]
   have ey:y= #[]:=by cases y;simp at hy;simp [hy]
   subst ex ey
   exact .func f [] [] #[] #[] rfl rfl (fun i u v h=>by simp at h) (fun i u v h=>by simp at h)
  ·cases h;exact .nilFunc
  ·cases h;exact .nilIface
  ·rename_i cs
   cases hm:cs.toList.mapM (uF n)with
   |none=>rw [hm]at h;cases h
   |some zC0=>
    rw [hm]at h
    cases hc:yf zC0 with
    |false=>simp only [hc,cond_false]at h;cases h
    |true=>
     simp only [hc,cond_true]at h
     cases h
     have hl:=rF ih _ _ hm
     exact .agg zC0 cs (by simpa using hl.length) (fun i u v hu hv=>hl.pt i u v hu (by simpa using hv)) ((vH zC0).1 hc)
  rename_i cs
  cases hm:cs.toList.mapM (uF n)with
  |none=>rw [hm]at h;cases h
  |some zC0=>
   rw [hm]at h
   cases h
   have hl:=rF ih _ _ hm
   exact .tuple zC0 cs (by simpa using hl.length) (fun i u v hu hv=>hl.pt i u v hu (by simpa using hv))
theorem rN {V:qw} {T:Tm} {a:Act} (hT:ZX V T a.tmps) {x:Operand} {v:z0} (h:zK T x=some v):zS V v (a.eval x):=by
 cases x with
 |tmp t=>
  obtain⟨u,h1,h2⟩:=hT t v h
  simp only [Act.eval,Array.getD_eq_getD_getElem?,h1]
  exact h2
 |const c=>exact ZY V 4 c v h
 |global g=>cases h
 |func f=>cases h;exact .func f [] [] #[] #[] rfl rfl (fun i u v h=>by simp at h) (fun i u v h=>by simp at h)
def pB (V:qw) (T:Tm) (a:Act) (l:Array Operand):Prop:= ∀x,x ∈ l→ ∀v,zK T x=some v→zS V v (a.eval x)
theorem ZX.looks {V:qw} {T:Tm} {a:Act} (hT:ZX V T a.tmps) (l:Array Operand):pB V T a l:=fun _ _ _ h=>rN hT h
theorem QD {V:qw} {T:Tm} {a:Act} : ∀ {l:List Operand} {vs:List z0},(∀x,x ∈ l→ ∀v,zK T x=some v→zS V v (a.eval x))→wQ T l=some vs→yw V vs (l.map a.eval):=by
 intro l
 induction l with
 |nil=>intro vs _ h;cases h;exact .nil
 |cons x xs ih=>
  intro vs hl h
  simp only [wQ]at h
  cases h1:zK T x with
  |none=>rw [h1]at h;cases h
  |some v=>
   rw [h1]at h
   cases h2:wQ T xs with
   |none=>rw [h2]at h;cases h
   |some us=>rw [h2]at h;cases h;exact .cons (hl x (by simp) v h1) (ih (fun y hy=>hl y (by simp [hy])) h2)
end Go.Px
section
namespace Go.Px
open Go Go.RowKit
variable {P:Program} {F:zD} {V:qw} {B:Nat} {w0 w:World} {H:Hp}
theorem vb (b o n:Nat):(⟨b,o,none⟩:Addr).add n=⟨b,o+n,none⟩:=Addr.add_lit b o n
theorem J7 (hW:yD B w0 V H w) {i off b base S:Nat} {a:z0} (hb:V.uD i=some (b,base,S)) (h:H.gP i off=some a):
 ∃v,w.cell? ⟨b,base+off,none⟩=some v∧zS V a v∧a.yK=true:=by
 unfold Hp.gP at h
 split at h
 ·rename_i rw c n ho
  obtain⟨x,hx,hr⟩:=hW.obj i _ b base S ho hb
  cases hr with
  |cells _ _ _ _ _ _ arr el fz aw HU hS hn Vl hc=>
   obtain⟨h1,h2,v,h3,h4⟩:=hc off a h
   exact⟨v,by simp [World.cell?,hx,h3],h4,h2⟩
 cases h
theorem U6 (c:Tr z0) (i n:Nat):ZD c i (n+1)=(match c.get i with
 |none=>none
 |some v=>match ZD c (i+1) n with
  |none=>none
  |some vs=>some (v::vs)):=by
 show Option.rec (motive:=fun _=>Option (List z0)) none (fun v=>Option.rec (motive:=fun _=>Option (List z0)) none (fun vs=>some (v::vs)) (ZD c (i+1) n)) (c.get i)=_
 cases c.get i with
 |none=>rfl
 |some v=>cases ZD c (i+1) n<;>rfl
theorem dy (c:Tr z0): ∀(n i:Nat) (vs:List z0),ZD c i n=some vs→vs.length=n∧ ∀(j:Nat) v,vs[j]? =some v→c.get (i+j)=some v:=by
 intro n
 induction n with
 |zero=>intro i vs h;have:some ([]:List z0)=some vs:=h;cases this;exact⟨rfl,fun j v h=>by simp at h⟩
 |succ n ih=>
  intro i vs h
  rw [U6]at h
  cases h1:c.get i with
  |none=>rw [h1]at h;cases h
  |some v=>
   rw [h1]at h
   cases h2:ZD c (i+1) n with
   |none=>rw [h2]at h;cases h
   |some us=>
    rw [h2]at h
    cases h
    obtain⟨h3,h4⟩:=ih (i+1) us h2
    refine⟨by simp [h3],fun j u hu=> ?_⟩
    cases j with
    |zero=>simp at hu;subst hu;exact h1
    |succ j=>simp at hu;rw [show i+(j+1)=i+1+j by omega];exact h4 j u hu
theorem QH (hW:yD B w0 V H w) {i off b base S n:Nat} {zC0:List z0} (hb:V.uD i=some (b,base,S)) (h:H.read i off n=some zC0):
 zC0.length=n∧(∀u,u ∈ zC0→u.yK=true)∧ ∃vs,yw V zC0 vs∧ ∀j v,vs[j]? =some v→w.cell? ((⟨b,base+off,none⟩:Addr).add j)=some v:=by
 unfold Hp.read at h
 split at h
 ·rename_i rw c m ho
  obtain⟨x,hx,hr⟩:=hW.obj i _ b base S ho hb
  cases hr with
  |cells _ _ _ _ _ _ arr el fz aw HU hS hn Vl hc=>
   obtain⟨hl,hg⟩:=dy c n off zC0 h
   refine⟨hl,fun u hu=> ?_,?_⟩
   ·obtain⟨j,hj⟩:=List.mem_iff_getElem?.1 hu
    exact(hc _ _ (hg j u hj)).2.1
   refine⟨(List.range n).map fun j=>arr.getD (base+(off+j)) undef,?_,?_⟩
   ·refine yw.of (by simp [hl]) fun j u v hu hv=> ?_
    obtain⟨_,_,v',h3,h4⟩:=hc _ _ (hg j u hu)
    have hj:j<n:=by have:=(List.getElem?_eq_some_iff.1 hu).1;omega
    simp [hj]at hv
    rw [h3]at hv
    simp at hv
    subst hv
    exact h4
   intro j v hv
   rw [vb]
   by_cases hj:j<n
   ·simp [hj]at hv
    obtain⟨a,ha⟩: ∃a,zC0[j]? =some a:=⟨zC0[j]'(by omega),List.getElem?_eq_getElem (by omega)⟩
    obtain⟨_,_,v',h3,h4⟩:=hc _ _ (hg j a ha)
    rw [h3]at hv
    simp at hv
    subst hv
    simp [World.cell?,hx,Nat.add_assoc,h3]
   simp [hj]at hv
 cases h
def qw.bind (V:qw) (id:Nat) (x:Nat×Nat×Nat):qw:=⟨V.ρ,fun i=>if i=id then some x else V.uD i,V.GX⟩
theorem qw.Ye {i:Nat} (hn:V.uD i=none) (x:Nat×Nat×Nat):V.le (V.bind i x):=
 ⟨rfl,fun id y h=>by
  have:id≠i:=fun e=>by rw [e,hn]at h;cases h
  simp [qw.bind,this,h],rfl⟩
theorem yD.Ye (hW:yD B w0 V H w) (x:Nat×Nat×Nat):V.le (V.bind H.next x):=qw.Ye (hW.next _ (Nat.le_refl _)).1 x
theorem U1 (w:World) (x:Obj) (k:Nat) (h:k<w.heap.size):(w.alloc x).heap[k]? =w.heap[k]? :=Below.heap_alloc w x k h
theorem jk (w:World) (x:Obj):(w.alloc x).heap[w.heap.size]? =some x:=by show(w.heap.push x)[w.heap.size]? =_;simp
theorem U2 (w:World) (x:Obj) (k:Nat) (h:k≠w.heap.size):(w.alloc x).heap[k]? =w.heap[k]? :=by
 show(w.heap.push x)[k]? =_
 rw [Array.getElem?_push,if_neg h]
theorem kc {w':World} {b base S:Nat} {o:jS} {x':Obj} (hf: ∀b arr el z,B≤b→w.heap[b]? =some (.cells arr el z)→z=(0,0)) (Qb: ∀k,k≠b→w'.heap[k]? =w.heap[k]?)
 (hx:w'.heap[b]? =some x') (hr:QO V B o b base S x'): ∀b arr el z,B≤b→w'.heap[b]? =some (.cells arr el z)→z=(0,0):=by
 intro b' arr el z hB h
 by_cases e:b'=b
 ·subst e
  rw [hx]at h
  cases h
  cases hr with
  |cells _ _ _ _ _ _ _ _ _ _ HU=>exact HU hB
 rw [Qb b' e]at h
 exact hf b' arr el z hB h
theorem yD.alloc (hW:yD B w0 V H w) {o:jS} {x:Obj} {base S:Nat} (ho:QO V B o w.heap.size base S x):
 yD B w0 (V.bind H.next (w.heap.size,base,S)) (H.alloc o) (w.alloc x):=by
 have hle:=hW.Ye (w.heap.size,base,S)
 have j6: ∀id b vW S',(V.bind H.next (w.heap.size,base,S)).uD id=some (b,vW,S')→(id=H.next∧b=w.heap.size∧vW=base∧S'=S)∨(id≠H.next∧V.uD id=some (b,vW,S')∧b<w.heap.size):=by
  intro id b vW S' h
  by_cases e:id=H.next
  ·subst e;simp [qw.bind]at h;exact .inl ⟨rfl,h.1.symm,h.2.1.symm,h.2.2.symm⟩
  simp [qw.bind,e]at h;exact .inr ⟨e,h,hW.lt _ _ _ _ h⟩
 have UQ: ∀id o',(H.alloc o).t.get id=some o'→(id=H.next∧o'=o)∨(id≠H.next∧H.t.get id=some o'):=by
  intro id o' h
  simp only [Hp.alloc,Tr.yh]at h
  by_cases e:id=H.next
  ·subst e;simp at h;exact .inl ⟨rfl,h.symm⟩
  rw [if_neg e]at h;exact .inr ⟨e,h⟩
 refine⟨hW.below.alloc hW.size x,by simp;have:=hW.size;omega,?_,?_,?_,?_,kc hW.fz (fun k hk=>U2 w x k hk) (jk w x) ho,hW.GX⟩
 ·intro id ar
  have hid':H.next+1≤id:=ar
  have h1:=hW.next id (by omega)
  exact⟨by simp [qw.bind,show id≠H.next by omega,h1.1],by simp only [Hp.alloc,Tr.yh];rw [if_neg (by omega)];exact h1.2⟩
 ·intro id b vW S' h
  rcases j6 id b vW S' h with⟨_,rfl,_⟩|⟨_,_,h⟩<;>simp<;>omega
 ·intro id o' b vW S' h1 h2
  rcases j6 id b vW S' h2 with⟨rfl,rfl,rfl,rfl⟩|⟨wY,my,uE⟩
  ·rcases UQ _ _ h1 with⟨_,rfl⟩|⟨wY,_⟩
   ·exact⟨x,jk w x,ho.mono hle⟩
   exact absurd rfl wY
  rcases UQ _ _ h1 with⟨rfl,_⟩|⟨_,kd⟩
  ·exact absurd rfl wY
  obtain⟨y,hy,hr⟩:=hW.obj id o' b vW S' kd my
  exact⟨y,by rw [U1 w x b uE];exact hy,hr.mono hle⟩
 intro id nZ o1 o2 b b' BW xQ S1 S2 h1 h2 h3 h4 wY
 rcases j6 _ _ _ _ h3 with⟨rfl,rfl,_⟩|⟨lU,h3',hlt1⟩<;>rcases j6 _ _ _ _ h4 with⟨rfl,rfl,_⟩|⟨Vn,h4',hlt2⟩
 ·exact absurd rfl wY
 ·exact .inl (by omega)
 ·exact .inl (by omega)
 rcases UQ _ _ h1 with⟨e,_⟩|⟨_,kd⟩
 ·exact absurd e lU
 rcases UQ _ _ h2 with⟨e,_⟩|⟨_,my⟩
 ·exact absurd e Vn
 exact hW.inj id nZ o1 o2 b b' BW xQ S1 S2 kd my h3' h4' wY
theorem qw.Uj (V:qw) (id:Nat) (x:Nat×Nat×Nat):(V.bind id x).uD id=some x:=by simp [qw.bind]
theorem Y8 {zC0:List z0} {vs:List Value} (h:yw V zC0 vs) (hc: ∀u,u ∈ zC0→u.yK=true) (b S:Nat) (el:TypeId) (rest:List Value) (hB:B≤b)
 (hS:S=zC0.length+rest.length):QO V B (newRow zC0) b 0 S (.cells (vs++rest).toArray el):=by
 have hl:=h.length
 refine .cells true _ _ b 0 S _ el (0,0) (fun _=>⟨rfl,hB⟩) (fun _=>rfl) (fun _=>by simp [hS,hl]) (by omega) (fun _ i hi=> ?_) (fun i a ha=> ?_)
 ·rw [Tr.gb,if_pos (by omega)]
  exact⟨zC0[i]'hi,by simp [hi]⟩
 rw [Tr.gb]at ha
 split at ha
 ·rename_i hi
  have P6:zC0[i]? =some a:=by simpa using ha
  obtain⟨v,h1,h2⟩:=h.at i a P6
  have uE:i<vs.length:=(List.getElem?_eq_some_iff.1 h1).1
  exact⟨by omega,hc a (List.mem_of_getElem? P6),v,by simp [List.getElem?_append_left uE,h1],h2⟩
 rw [Tr.get_nil]at ha;cases ha
theorem yD.put (hW:yD B w0 V H w) {w':World} {id b base S:Nat} {o o':jS} {x':Obj} (hb:V.uD id=some (b,base,S)) (ho:H.t.get id=some o)
 (tC:Below B w w') (Y2:w'.heap.size=w.heap.size) (Qb: ∀k,k≠b→w'.heap[k]? =w.heap[k]?) (hx:w'.heap[b]? =some x') (hr:QO V B o' b base S x'):
 yD B w0 V (H.put id o') w':=by
 have UQ: ∀i q,(H.put id o').t.get i=some q→(i=id∧q=o')∨(i≠id∧H.t.get i=some q):=by
  intro i q h
  simp only [Hp.put,Tr.yh]at h
  by_cases e:i=id
  ·subst e;simp at h;exact .inl ⟨rfl,h.symm⟩
  rw [if_neg e]at h;exact .inr ⟨e,h⟩
 have some': ∀i q,(H.put id o').t.get i=some q→ ∃q',H.t.get i=some q':=by
  intro i q h
  rcases UQ i q h with⟨rfl,_⟩|⟨_,h⟩
  ·exact⟨o,ho⟩
  exact⟨q,h⟩
 refine⟨hW.below.trans tC,by rw [Y2];exact hW.size,?_,fun i b' ba S' h=>by rw [Y2];exact hW.lt i b' ba S' h,?_,?_,kc hW.fz Qb hx hr,hW.GX⟩
 ·intro i hi
  have h1:=hW.next i hi
  refine⟨h1.1,?_⟩
  simp only [Hp.put,Tr.yh]
  by_cases e:i=id
  ·subst e;rw [h1.1]at hb;cases hb
  rw [if_neg e];exact h1.2
 ·intro i q b' ba S' h1 h2
  rcases UQ i q h1 with⟨rfl,rfl⟩|⟨wY,kd⟩
  ·rw [hb]at h2;cases h2
   exact⟨x',hx,hr⟩
  obtain⟨y,hy,Sy⟩:=hW.obj i q b' ba S' kd h2
  exact⟨y,by
   rcases hW.inj i id q o b' b ba base S' S kd ho h2 hb wY with hn|hn
   ·rw [Qb b' hn];exact hy
   rw [tC.block b' hn];exact hy,Sy⟩
 intro i j q1 q2 b1 b2 a1 a2 S1 S2 h1 h2 h3 h4 wY
 obtain⟨q1',kd⟩:=some' i q1 h1
 obtain⟨q2',my⟩:=some' j q2 h2
 exact hW.inj i j q1' q2' b1 b2 a1 a2 S1 S2 kd my h3 h4 wY
structure Ext (V V':qw) (H H':Hp):Prop where
 le:V.le V'
 j6: ∀id,id<H.next→V'.uD id=V.uD id
 next:H.next≤H'.next
 ghost: ∀id,id<H.next→V.uD id=none→H'.t.get id=H.t.get id
theorem Ext.refl (V:qw) (H:Hp):Ext V V H H:=⟨.refl V,fun _ _=>rfl,Nat.le_refl _,fun _ _ _=>rfl⟩
theorem Ext.trans {V V' MN:qw} {H H' MG:Hp} (h:Ext V V' H H') (h':Ext V' MN H' MG):Ext V MN H MG:=
 ⟨h.le.trans h'.le,fun id hi=>by rw [h'.j6 id (Nat.lt_of_lt_of_le hi h.next),h.j6 id hi],Nat.le_trans h.next h'.next,
  fun id hi hn=>by rw [h'.ghost id (Nat.lt_of_lt_of_le hi h.next) (by rw [h.j6 id hi];exact hn),h.ghost id hi hn]⟩
theorem Ext.put {i:Nat} {x:Nat×Nat×Nat} (hb:V.uD i=some x) (o:jS):Ext V V H (H.put i o):=
 ⟨.refl V,fun _ _=>rfl,Nat.le_refl _,fun id _ hn=>by
  simp only [Hp.put,Tr.yh]
  rw [if_neg (fun e=>by subst e;rw [hb]at hn;cases hn)]⟩
theorem yD.Uw (hW:yD B w0 V H w) (o:jS) (x:Nat×Nat×Nat):Ext V (V.bind H.next x) H (H.alloc o):=
 ⟨hW.Ye x,fun id hi=>by simp [qw.bind,show id≠H.next by omega],Nat.le_succ _,fun id hi _=>by
  simp only [Hp.alloc,Tr.yh];rw [if_neg (by omega)]⟩
theorem Ext.del {i:Nat} {x:Nat×Nat×Nat} (hb:V.uD i=some x):Ext V V H ⟨H.t.del i,H.next⟩:=
 ⟨.refl V,fun _ _=>rfl,Nat.le_refl _,fun id _ hn=>by
  show(H.t.del i).get id=_
  rw [Tr.Qa,if_neg (fun e=>by subst e;rw [hb]at hn;cases hn)]⟩
theorem yD.TO (hW:yD B w0 V H w) {w':World} {id b base S:Nat} {o o':jS} {x':Obj} (hb:V.uD id=some (b,base,S)) (ho:H.t.get id=some o)
 (tC:Below B w w') (Y2:w'.heap.size=w.heap.size) (Qb: ∀k,k≠b→w'.heap[k]? =w.heap[k]?) (hx:w'.heap[b]? =some x') (hr:QO V B o' b base S x'):
 yD B w0 V (H.put id o') w'∧Ext V V H (H.put id o'):=⟨hW.put hb ho tC Y2 Qb hx hr,.put hb o'⟩
theorem setRow_other (w:World) (b k:Nat) (arr:Array Value) (h:k≠b):(w.setRow b arr).heap[k]? =w.heap[k]? :=by
 simp only [World.setRow,Array.getElem?_modify]
 rw [if_neg (Ne.symm h)]
end Go.Px
end
namespace Go.Px
open Go Go.RowKit
theorem Qe (a b:Int):xx a b=true↔a<b:=by
 cases a with
 |ofNat m=>cases b with
  |ofNat n=>show Nat.blt m n=true↔_;rw [Nat.blt_eq];exact Int.ofNat_lt.symm
  |negSucc n=>exact⟨fun h=>absurd h Bool.false_ne_true,fun h=>absurd h (by have:=Int.negSucc_lt_zero n;have:=Int.natCast_nonneg m;show¬((m:Int)<_);omega)⟩
 |negSucc m=>cases b with
  |ofNat n=>exact⟨fun _=>by have:=Int.negSucc_lt_zero m;have:=Int.natCast_nonneg n;show _<(n:Int);omega,fun _=>rfl⟩
  |negSucc n=>show Nat.blt n m=true↔_;rw [Nat.blt_eq,Int.negSucc_eq,Int.negSucc_eq];omega
theorem Zj (a b:Int):xx a b=false↔b≤a:=by
 cases h:xx a b with
 |true=>have:=(Qe a b).1 h;constructor<;>intro h'<;>first|cases h'|omega
 |false=>
  refine⟨fun _=> ?_,fun _=>rfl⟩
  by_cases hh:a<b
  ·rw [(Qe a b).2 hh]at h;cases h
  omega
theorem ZA (a b:Int):Z9 a b=true↔a=b:=by
 cases a with
 |ofNat m=>cases b with
  |ofNat n=>show Nat.beq m n=true↔_;rw [Nat.beq_eq];exact⟨fun h=>by rw [h],fun h=>Int.ofNat.inj h⟩
  |negSucc n=>exact⟨fun h=>absurd h Bool.false_ne_true,fun h=>by cases h⟩
 |negSucc m=>cases b with
  |ofNat n=>exact⟨fun h=>absurd h Bool.false_ne_true,fun h=>by cases h⟩
  |negSucc n=>show Nat.beq m n=true↔_;rw [Nat.beq_eq];exact⟨fun h=>by rw [h],fun h=>Int.negSucc.inj h⟩
theorem vy (a b:Int):Z9 a b=decide (a=b):=by
 rw [Bool.eq_iff_iff,ZA,decide_eq_true_eq]
theorem Qd (a b:Int):xx a b=decide (a<b):=by
 rw [Bool.eq_iff_iff,Qe,decide_eq_true_eq]
theorem u3 (k:IntKind) (z:Int):UN k z=true↔G7 k≤z∧z≤ZO k:=by
 unfold UN
 rw [Qd,Qd]
 by_cases h1:z<G7 k
 ·rw [decide_eq_true h1];exact⟨fun h=>absurd h Bool.false_ne_true,fun h=>by omega⟩
 rw [decide_eq_false h1]
 by_cases h2:ZO k<z
 ·rw [decide_eq_true h2];exact⟨fun h=>absurd h Bool.false_ne_true,fun h=>by omega⟩
 rw [decide_eq_false h2];exact⟨fun _=>by omega,fun _=>rfl⟩
theorem jq {k:IntKind} {z:Int} (h:UN k z=true):k.wrap z=z:=by
 have h:=(u3 k z).1 h
 have hs: ∀(m M:Int) (c:Prop) [Decidable c],(c↔m≤z%M)→M=2*m→0<m→ -m≤z→z<m→(if c then z%M-M else z%M)=z:=by
  intro m M c _ hc hM hm h1 h2
  subst hM
  by_cases hz:0≤z
  ·have:z%(2*m)=z:=Int.emod_eq_of_lt hz (by omega)
   rw [this]at hc ⊢
   rw [if_neg (by rw [hc];omega)]
  have:z%(2*m)=z+2*m:=by
   rw [←Int.add_emod_right]
   exact Int.emod_eq_of_lt (by omega) (by omega)
  rw [this]at hc ⊢
  rw [if_pos (by rw [hc];omega)]
  omega
 have hu: ∀(M:Int),0≤z→z<M→z%M=z:=fun M h1 h2=>Int.emod_eq_of_lt h1 h2
 cases k<;>simp only [G7,ZO]at h<;>simp only [IntKind.wrap,IntKind.bits,IntKind.signed,Bool.true_and,Bool.false_and,Bool.false_eq_true,if_false]<;>
  first
   |(refine hu _ h.1 ?_;simp only [Int.reducePow];omega)
   |(refine hs (2^7) _ _ (by simp) (by decide) (by decide) ?_ ?_<;>simp only [Int.reducePow]<;>omega)
   |(refine hs (2^15) _ _ (by simp) (by decide) (by decide) ?_ ?_<;>simp only [Int.reducePow]<;>omega)
   |(refine hs (2^31) _ _ (by simp) (by decide) (by decide) ?_ ?_<;>simp only [Int.reducePow]<;>omega)
   |(refine hs (2^63) _ _ (by simp) (by decide) (by decide) ?_ ?_<;>simp only [Int.reducePow]<;>omega)
theorem SInt.eQ (ρ:Nat→Int) (a:Int) (i:Nat) (c:Int):(SInt.mk a i c).ev ρ=a*ρ i+c:=by
 unfold SInt.mk
 cases h:Z9 a 0 with
 |true=>have:=(ZA _ _).1 h;subst this;simp [SInt.ev]
 |false=>rfl
theorem SInt.MP {ρ:Nat→Int} {x y r:SInt} (h:x.add y=some r):r.ev ρ=x.ev ρ+y.ev ρ:=by
 cases x<;>cases y<;>simp only [SInt.add]at h
 ·cases h;rfl
 ·cases h;simp only [SInt.ev];omega
 ·cases h;simp only [SInt.ev];omega
 rename_i a i c b j d
 cases e:Nat.beq i j with
 |false=>rw [e]at h;cases h
 |true=>
  have:=Nat.eq_of_beq_eq_true e
  subst this
  simp only [e,cond_true,Option.some.injEq]at h
  subst h
  rw [SInt.eQ]
  simp only [SInt.ev,Int.add_mul]
  omega
theorem SInt.nA {ρ:Nat→Int} {x y r:SInt} (h:x.sub y=some r):r.ev ρ=x.ev ρ-y.ev ρ:=by
 cases x<;>cases y<;>simp only [SInt.sub]at h
 ·cases h;rfl
 ·cases h;simp only [SInt.ev,Int.neg_mul];omega
 ·cases h;simp only [SInt.ev];omega
 rename_i a i c b j d
 cases e:Nat.beq i j with
 |false=>rw [e]at h;cases h
 |true=>
  have:=Nat.eq_of_beq_eq_true e
  subst this
  simp only [e,cond_true,Option.some.injEq]at h
  subst h
  rw [SInt.eQ]
  simp only [SInt.ev,Int.sub_mul]
  omega
theorem SInt.Nn {ρ:Nat→Int} {x y r:SInt} (h:x.mul y=some r):r.ev ρ=x.ev ρ*y.ev ρ:=by
 cases x<;>cases y<;>simp only [SInt.mul]at h
 ·cases h;rfl
 ·cases h;rw [SInt.eQ];simp only [SInt.ev,Int.mul_add,Int.mul_assoc]
 ·cases h;rw [SInt.eQ];simp only [SInt.ev,Int.add_mul];rw [Int.mul_assoc,Int.mul_comm _ (ρ _),←Int.mul_assoc,Int.mul_right_comm]
 cases h
theorem SInt.tz {F:zD} {ρ:Nat→Int} (hF:dJ F ρ) {x:SInt} {lo hi:Int} (h:x.span F=some (lo,hi)):lo≤x.ev ρ∧x.ev ρ≤hi:=by
 cases x with
 |lit z=>cases h;exact⟨Int.le_refl _,Int.le_refl _⟩
 |G9 a i c=>
  simp only [SInt.span]at h
  split at h
  ·cases h
  rename_i l u hf
  obtain⟨h1,h2⟩:=hF i l u hf
  simp only [SInt.ev]
  cases e:xx a 0 with
  |true=>
   have ha:=(Qe _ _).1 e
   simp only [e,cond_true,Option.some.injEq,Prod.mk.injEq]at h
   obtain⟨rfl,rfl⟩:=h
   have m1:=Int.mul_le_mul_of_nonpos_left (a:=a) (b:=u) (c:=ρ i) (by omega) h2
   have m2:=Int.mul_le_mul_of_nonpos_left (a:=a) (b:=ρ i) (c:=l) (by omega) h1
   omega
  |false=>
   have ha:=(Zj _ _).1 e
   simp only [e,cond_false,Option.some.injEq,Prod.mk.injEq]at h
   obtain⟨rfl,rfl⟩:=h
   have m1:=Int.mul_le_mul_of_nonneg_left h1 ha
   have m2:=Int.mul_le_mul_of_nonneg_left h2 ha
   omega
theorem SInt.Jl {F:zD} {ρ:Nat→Int} (hF:dJ F ρ) {x y:SInt} {b:Bool} (h:SInt.lt F x y=some b):b=decide (x.ev ρ<y.ev ρ):=by
 have gen: ∀(d:SInt),x.sub y=some d→(match d.span F with
  |none=>none
  |some (lo,hi)=>bif xx hi 0 then some true else bif xx lo 0 then none else some false)=some b→b=decide (x.ev ρ<y.ev ρ):=by
  intro d hd h
  have e:=SInt.nA (ρ:=ρ) hd
  cases hs:d.span F with
  |none=>rw [hs]at h;cases h
  |some p=>
   obtain⟨lo,hi⟩:=p
   obtain⟨h1,h2⟩:=SInt.tz hF hs
   rw [hs]at h
   cases e1:xx hi 0 with
   |true=>
    have:=(Qe _ _).1 e1
    simp only [e1,cond_true,Option.some.injEq]at h
    subst h
    exact(decide_eq_true (by omega)).symm
   |false=>
    cases e2:xx lo 0 with
    |true=>simp only [e1,e2,cond_true,cond_false]at h;cases h
    |false=>
     have:=(Zj _ _).1 e2
     simp only [e1,e2,cond_false,Option.some.injEq]at h
     subst h
     exact(decide_eq_false (by omega)).symm
 unfold SInt.lt at h
 split at h
 ·cases h;rw [Qd];rfl
 split at h
 ·cases h
 rename_i d hd
 exact gen d hd h
theorem SInt.C8 {F:zD} {ρ:Nat→Int} (hF:dJ F ρ) {x y:SInt} {b:Bool} (h:SInt.eq F x y=some b):b=decide (x.ev ρ=y.ev ρ):=by
 unfold SInt.eq at h
 split at h
 ·cases h;rw [vy];rfl
 split at h
 ·cases h
 rename_i d hd
 have e:=SInt.nA (ρ:=ρ) hd
 split at h
 ·rename_i z
  cases h
  have e:z=x.ev ρ-y.ev ρ:=e
  rw [vy]
  by_cases hz:z=0
  ·rw [decide_eq_true hz,decide_eq_true (by omega)]
  rw [decide_eq_false hz,decide_eq_false (by omega)]
 cases hs:d.span F with
 |none=>rw [hs]at h;cases h
 |some p=>
  obtain⟨lo,hi⟩:=p
  obtain⟨h1,h2⟩:=SInt.tz hF hs
  rw [hs]at h
  cases e1:xx hi 0 with
  |true=>
   have:=(Qe _ _).1 e1
   simp only [e1,cond_true,Option.some.injEq]at h
   subst h
   exact(decide_eq_false (by omega)).symm
  |false=>
   cases e2:xx 0 lo with
   |true=>
    have:=(Qe _ _).1 e2
    simp only [e1,e2,cond_true,cond_false,Option.some.injEq]at h
    subst h
    exact(decide_eq_false (by omega)).symm
   |false=>simp only [e1,e2,cond_false]at h;cases h
theorem SInt.xF {F:zD} {ρ:Nat→Int} (hF:dJ F ρ) {k:IntKind} {x r:SInt} (h:SInt.wrap F k x=some r):r.ev ρ=k.wrap (x.ev ρ):=by
 unfold SInt.wrap at h
 split at h
 ·rename_i z
  cases h
  cases e:UN k z with
  |true=>simp only [cond_true,SInt.ev];exact(jq e).symm
  |false=>simp only [cond_false,SInt.ev]
 cases hs:SInt.span F x with
 |none=>rw [hs]at h;cases h
 |some p=>
  obtain⟨lo,hi⟩:=p
  obtain⟨h1,h2⟩:=SInt.tz hF hs
  rw [hs]at h
  cases e1:UN k lo && UN k hi with
  |false=>simp only [e1,cond_false]at h;cases h
  |true=>
   simp only [e1,cond_true,Option.some.injEq]at h
   subst h
   rw [Bool.and_eq_true]at e1
   have a:=(u3 _ _).1 e1.1
   have b:=(u3 _ _).1 e1.2
   exact(jq ((u3 _ _).2 ⟨by omega,by omega⟩)).symm
end Go.Px
section
namespace Go.Px
open Go Go.RowKit
variable {P:Program} {F:zD} {V:qw} {B:Nat} {w0 w:World} {H:Hp}
theorem qP {x:Option z0} {H:Hp} {r:zN} (h:zN.qK x H=some r): ∃v,x=some v∧r= .val v H:=by
 cases x with
 |none=>cases h
 |some v=>cases h;exact⟨v,rfl,rfl⟩
theorem zR {t:TypeId} {d:TypeDesc} (h:yj P t=some d) (w:World):(underlying t).run P w= .ok d w:=run_underlying h w
theorem run_typeInfo {t:TypeId} {i:TypeInfo} (h:P.info? t=some i) (w:World):(typeInfo t).run P w= .ok i w:=by
 simp [typeInfo,program,h,Sem.run,Bind.bind,Sem.bind,Pure.pure]
theorem AZ {t:TypeId} {n:Nat} (h:yb P t=some n): ∃i,P.info? t=some i∧i.size=n:=by
 unfold yb at h
 split at h
 ·rename_i i hi;cases h;exact⟨i,hi,rfl⟩
 cases h
theorem QT {t:TypeId} {n:Nat} (h:bytesOf P t=some n): ∃i,P.info? t=some i∧i.bytes=n:=by
 unfold bytesOf at h
 split at h
 ·rename_i i hi;cases h;exact⟨i,hi,rfl⟩
 cases h
theorem qA {t:TypeId} {n:Nat} (h:yb P t=some n) (w:World):(sizeOf t).run P w= .ok n w:=by
 obtain⟨i,hi,rfl⟩:=AZ h
 simp [sizeOf,run_typeInfo hi]
theorem VY {t:TypeId} {b:Bool} (h:Y3 P t=some b) (w:World):(isAgg t).run P w= .ok b w:=by
 unfold Y3 at h
 split at h<;>first
  |(cases h;done)
  |(rename_i e;cases h;simp [isAgg,zR e])
theorem jI {t:TypeId} {z:z0} (h:zeroOf P t=some z): ∃v,(∀w,(zeroValue t).run P w= .ok v w)∧ ∀V,zS V z v:=by
 unfold zeroOf at h
 split at h
 ·rename_i i hi
  split at h
  ·rename_i v hv
   exact⟨v,fun w=>by simp [zeroValue,run_typeInfo hi,hv],fun V=>ZY V 4 v z h⟩
  cases h
 cases h
theorem zS.Qh {cs:List z0} {v:Value} (h:zS V (.agg cs) v): ∃x,v= .agg x∧yw V cs x.toList∧ ∀u,u ∈ cs→u.yK=true:=by
 cases h with
 |agg _ x ha hx hc=>exact⟨x,rfl,yw.ofArray ha hx,hc⟩
theorem zS.ig {cs:List z0} {v:Value} (h:zS V (.tuple cs) v): ∃x,v= .tuple x∧yw V cs x.toList:=by
 cases h with
 |tuple _ x ha hx=>exact⟨x,rfl,yw.ofArray ha hx⟩
theorem zS.MU {us:List z0} {x:Array Value} (h:yw V us x.toList) (hc: ∀u,u ∈ us→u.yK=true):zS V (.agg us) (.agg x):=by
 have:=zS.Pa h hc
 simpa using this
theorem zS.nG {us:List z0} {x:Array Value} (h:yw V us x.toList):zS V (.tuple us) (.tuple x):=by
 have:=zS.UZ h
 simpa using this
theorem zS.Wt {b:Bool} {v:Value} (h:zS V (.bool b) v):v= .bool b:=by cases h;rfl
theorem zS.uw {k:IntKind} {s:SInt} {v:Value} (h:zS V (.int k s) v):v= .int k (s.ev V.ρ):=by cases h;rfl
theorem zS.Za {i off:Nat} {v:Value} (h:zS V (.ptr (some (i,off))) v): ∃b base S,V.uD i=some (b,base,S)∧v= .pointer (some ⟨b,base+off,none⟩):=by
 cases h with
 |ptr _ _ b base S h=>exact⟨b,base,S,h,rfl⟩
theorem wv {a:z0} {n:Nat} (h:uj a=some n) {v:Value} (hv:zS V a v): ∃k,v= .int k (n:Int):=by
 cases a<;>simp only [uj]at h<;>try (cases h;done)
 split at h
 ·rename_i h1;cases h1;cases h;exact⟨_,hv.uw⟩
 cases h
theorem m6: ∀(n:Nat) (l:List z0),takeN n l=l.take n:=by
 intro n
 induction n with
 |zero=>intro l;simp [takeN]
 |succ n ih=>intro l;cases l with
  |nil=>simp [takeN]
  |cons x l=>simp [takeN,ih]
theorem oz: ∀(n:Nat) (l:List z0),pP n l=l.drop n:=by
 intro n
 induction n with
 |zero=>intro l;simp [pP]
 |succ n ih=>intro l;cases l with
  |nil=>simp [pP]
  |cons x l=>simp [pP,ih]
theorem yw.take {us:List z0} {vs:List Value} (h:yw V us vs) (n:Nat):yw V (us.take n) (vs.take n):=
 yw.of (by simp [h.length]) fun i u v hu hv=>by
  by_cases hi:i<n
  ·rw [List.getElem?_take_of_lt hi]at hu hv;exact h.pt i u v hu hv
  rw [List.getElem?_take_eq_none (by omega)]at hu;cases hu
theorem yw.drop {us:List z0} {vs:List Value} (h:yw V us vs) (n:Nat):yw V (us.drop n) (vs.drop n):=
 yw.of (by simp [h.length]) fun i u v hu hv=>by
  rw [List.getElem?_drop]at hu hv;exact h.pt _ u v hu hv
theorem uk {t:TypeId} {cs:List z0} {off:Nat} {v:z0} (h:Y9 P t cs off=some v) {x:Array Value} (hl:yw V cs x.toList) (hc: ∀u,u ∈ cs→u.yK=true) (w:World):
 ∃v',zS V v v'∧(part t x off).run P w= .ok v' w:=by
 unfold Y9 at h
 split at h
 ·rename_i ha
  split at h
  ·rename_i n hn
   cases hb:Nat.ble (off+n) cs.length with
   |false=>rw [hb]at h;cases h
   |true=>
    rw [hb]at h
    cases h
    rw [m6,oz]
    have hle:=Nat.le_of_ble_eq_true hb
    have hlen:=hl.length
    refine⟨.agg (x.extract off (off+n)),?_,by simp [part,VY ha,qA hn]⟩
    have hh:yw V ((cs.drop off).take n) (x.extract off (off+n)).toList:=by
     rw [Array.toList_extract,List.extract_eq_take_drop,Nat.add_sub_cancel_left]
     exact(hl.drop off).take n
    exact zS.MU hh fun u hu=>hc u (List.mem_of_mem_drop (List.mem_of_mem_take hu))
  cases h
 ·rename_i ha
  obtain⟨v',h1,h2⟩:=hl.at off v h
  refine⟨v',h2,?_⟩
  have kd:x[off]? =some v':=by simpa using h1
  simp [part,VY ha,kd]
 cases h
theorem Jk (hW:yD B w0 V H w) {t:TypeId} {i off b base S:Nat} {v:z0} (hb:V.uD i=some (b,base,S)) (h:bH P t H i off=some v):
 ∃v',zS V v v'∧(loadVar t ⟨b,base+off,none⟩).run P w= .ok v' w:=by
 unfold bH at h
 split at h
 ·rename_i ha
  split at h
  ·rename_i n hn
   split at h
   ·rename_i cs hr
    cases h
    obtain⟨hlen,hc,vs,hl,vk⟩:=QH hW hb hr
    refine⟨.agg vs.toArray,zS.Pa hl hc,?_⟩
    have:=run_loadCells_list (P:=P) w ⟨b,base+off,none⟩ vs vk
    rw [←hl.length,hlen]at this
    simp [loadVar,VY ha,qA hn,this]
   cases h
  cases h
 ·rename_i ha
  obtain⟨v',h1,h2,_⟩:=J7 hW hb h
  exact⟨v',h2,by simp [loadVar,VY ha,run_load,h1]⟩
 cases h
theorem mg (hW:yD B w0 V H w) {t:TypeId} {x:OV} {r:zN} {u:Value} (hx: ∀v,x=some v→zS V v u) (h:Gi P t x H=some r):
 ∃v v',r= .val v H∧zS V v v'∧(Instr.loadAt t u).run P w= .ok v' w:=by
 unfold Gi at h
 split at h
 ·rename_i i off
  obtain⟨b,base,S,hb,rfl⟩:=(hx _ rfl).Za
  obtain⟨v,hv,rfl⟩:=qP h
  obtain⟨v',h1,h2⟩:=Jk hW hb hv
  exact⟨v,v',rfl,h1,by simpa [Instr.loadAt,Instr.sureAddr] using h2⟩
 cases h
theorem Ur {t:TypeId} {x:OV} {n:Nat} {r:zN} {u:Value} (hx: ∀v,x=some v→zS V v u) (h:gp P t x n H=some r) (w:World):
 ∃v v',r= .val v H∧zS V v v'∧(Instr.fieldAt t u n).run P w= .ok v' w:=by
 unfold gp at h
 split at h
 ·rename_i i off fs hu
  obtain⟨b,base,S,hb,rfl⟩:=(hx _ rfl).Za
  split at h
  ·rename_i f hf
   split at h
   ·cases h
   ·rename_i m wY hs
    cases h
    have hm:m≠0:=fun e=>wY e
    refine⟨_,.pointer (some ⟨b,base+(off+f.offset),none⟩),rfl,.ptr _ _ _ _ _ hb,?_⟩
    simp only [Instr.fieldAt,Sem.run_bind,zR hu,Result.andThen_ok,hf,Instr.sureAddr,Sem.run_pure,fieldPlace,qA hs,if_neg hm,vb,Nat.add_assoc]
   cases h
  cases h
 cases h
theorem dd {t:TypeId} {x:OV} {n:Nat} {r:zN} {u:Value} (hx: ∀v,x=some v→zS V v u) (h:VC P t x n H=some r) (w:World):
 ∃v v',r= .val v H∧zS V v v'∧(Instr.field t u n).run P w= .ok v' w:=by
 unfold VC at h
 split at h
 ·rename_i cs fs hu
  obtain⟨y,rfl,hl,hc⟩:=(hx _ rfl).Qh
  split at h
  ·rename_i f hf
   obtain⟨v,hv,rfl⟩:=qP h
   obtain⟨v',h1,h2⟩:=uk hv hl hc w
   exact⟨v,v',rfl,h1,by simp [Instr.field,zR hu,hf,asAgg,h2]⟩
  cases h
 cases h
theorem Us {t:TypeId} {x y:OV} {r:zN} {u z:Value} (hx: ∀v,x=some v→zS V v u) (hy: ∀v,y=some v→zS V v z) (h:ud P t x y H=some r) (w:World):
 ∃v v',r= .val v H∧zS V v v'∧(Instr.indexAt t u z).run P w= .ok v' w:=by
 unfold ud at h
 split at h
 ·rename_i i off v len e hu
  obtain⟨b,base,S,hb,rfl⟩:=(hx _ rfl).Za
  split at h
  ·rename_i n size hn hs
   obtain⟨k,rfl⟩:=wv hn (hy _ rfl)
   cases uE:Nat.blt n len with
   |false=>rw [uE]at h;cases h
   |true=>
    rw [uE]at h
    cases h
    have hlt':n<len:=by simpa using uE
    refine⟨_,.pointer (some ⟨b,base+(off+n*size),none⟩),rfl,.ptr _ _ _ _ _ hb,?_⟩
    simp only [Instr.indexAt,asIntOf,Sem.run_bind,Sem.run_pure,Result.andThen_ok,zR hu,Instr.sureAddr]
    rw [if_pos (⟨by omega,by omega⟩:(0:Int)≤(n:Int)∧(n:Int)<(len:Int))]
    simp only [Sem.run_bind,qA hs,Result.andThen_ok,Sem.run_pure,Int.toNat_natCast,vb,Nat.add_assoc]
  cases h
 ·rename_i i off len cap es v e hu
  have lW:=hx _ rfl
  split at h
  ·rename_i n size hn hs
   obtain⟨k,rfl⟩:=wv hn (hy _ rfl)
   cases uE:Nat.blt n len with
   |false=>rw [uE]at h;cases h
   |true=>
    rw [uE]at h
    cases h
    have hlt':n<len:=by simpa using uE
    cases lW with
    |slice _ _ _ _ _ b base S c hb hl hc hS=>
     refine⟨_,.pointer (some ⟨b,base+(off+n*size),none⟩),rfl,.ptr _ _ _ _ _ hb,?_⟩
     simp only [Instr.indexAt,asIntOf,Sem.run_bind,Sem.run_pure,Result.andThen_ok,zR hu]
     rw [if_pos (⟨by omega,by omega⟩:(0:Int)≤(n:Int)∧(n:Int)<(len:Int))]
     simp only [Sem.run_bind,qA hs,Result.andThen_ok,Sem.run_pure,Int.toNat_natCast,vb,Nat.add_assoc]
    |vU _ _ _ _ _ b base S c a hb hbl hl hc ha=>
     obtain rfl:=ha (.inl (by omega))
     refine⟨_,.pointer (some ⟨b,base+(off+n*size),none⟩),rfl,.ptr _ _ _ _ _ hb,?_⟩
     simp only [Instr.indexAt,asIntOf,Sem.run_bind,Sem.run_pure,Result.andThen_ok,zR hu]
     rw [if_pos (⟨by omega,by omega⟩:(0:Int)≤(n:Int)∧(n:Int)<(len:Int))]
     simp only [Sem.run_bind,qA hs,Result.andThen_ok,Sem.run_pure,Int.toNat_natCast,vb,Nat.add_assoc]
    |uA=>exact absurd hlt' (Nat.not_lt_zero _)
  cases h
 cases h
theorem qW (l:List Nat):zk l=true↔ ∀n,n ∈ l→n<256:=by
 induction l with
 |nil=>simp [zk]
 |cons x l ih=>simp [zk,ih]
theorem Zo (ρ:Nat→Int): ∀(l:List Nat),(∀n,n ∈ l→n<256)→Yr ρ l=l.map UInt8.ofNat:=by
 intro l
 induction l with
 |nil=>intro _;rfl
 |cons x l ih=>intro h;simp only [Yr,if_pos (h x (by simp)),List.map_cons,ih fun n hn=>h n (by simp [hn]),List.cons_append,List.nil_append]
theorem m3 {l:List Nat} {s:ByteArray} (hl:zk l=true) (h:zS V (.str l) (.string s)):s.data.toList=l.map UInt8.ofNat:=by
 cases h with
 |str _ _ h=>rw [h,Zo _ _ ((qW l).1 hl)]
theorem zS.ux {l:List Nat} {v:Value} (h:zS V (.str l) v): ∃s,v= .string s∧s.data.toList=Yr V.ρ l:=by
 cases h with
 |str _ s h=>exact⟨s,rfl,h⟩
theorem dg {t:TypeId} {x y:OV} {r:zN} {u z:Value} (hx: ∀v,x=some v→zS V v u) (hy: ∀v,y=some v→zS V v z) (h:VE P t x y H=some r) (w:World):
 ∃v v',r= .val v H∧zS V v v'∧(Instr.index t u z).run P w= .ok v' w:=by
 unfold VE at h
 split at h
 ·rename_i cs v len e hu
  obtain⟨q,rfl,hl,hc⟩:=(hx _ rfl).Qh
  split at h
  ·rename_i n size hn hs
   obtain⟨k,rfl⟩:=wv hn (hy _ rfl)
   cases uE:Nat.blt n len with
   |false=>rw [uE]at h;cases h
   |true=>
    rw [uE]at h
    obtain⟨v,hv,rfl⟩:=qP h
    have hlt':n<len:=by simpa using uE
    obtain⟨v',h1,h2⟩:=uk hv hl hc w
    refine⟨v,v',rfl,h1,?_⟩
    simp only [Instr.index,asIntOf,Sem.run_bind,Sem.run_pure,Result.andThen_ok,zR hu]
    rw [if_pos (⟨by omega,by omega⟩:(0:Int)≤(n:Int)∧(n:Int)<(len:Int))]
    simp only [Sem.run_bind,qA hs,Result.andThen_ok,Int.toNat_natCast,h2]
  cases h
 ·rename_i s v hu
  split at h
  ·rename_i n hn
   obtain⟨k,rfl⟩:=wv hn (hy _ rfl)
   cases hb:zk s with
   |false=>rw [hb]at h;cases h
   |true=>
    rw [hb]at h
    simp only [cond_true]at h
    split at h
    ·rename_i b hs
     cases h
     obtain⟨q,rfl,_⟩:=(hx _ rfl).ux
     have hq:=m3 hb (hx _ rfl)
     have uE:n<s.length:=(List.getElem?_eq_some_iff.1 hs).1
     have LV:q.data.toList[n]? =some (UInt8.ofNat b):=by rw [hq];simp [hs]
     have Y2:n<q.size:=by
      have:q.data.toList.length=s.length:=by rw [hq];simp
      have h2:q.size=q.data.toList.length:=by cases q;rfl
      omega
     have hq3:q[n]? =some (UInt8.ofNat b):=by
      have e:q[n]? =some q[n]:=by simp [Y2]
      rw [e]
      have e2:q.data.toList[n]? =some q[n]:=by
       cases q with
       |mk d=>
       have hd:n<d.size:=Y2
       show d.toList[n]? =_
       rw [Array.getElem?_toList,Array.getElem?_eq_getElem hd]
       rfl
      rw [e2]at LV
      exact LV
     have kg:b<256:=(qW s).1 hb b (List.mem_of_getElem? hs)
     refine⟨_,.int .u8 (b:Int),rfl,.int .u8 (.lit (.ofNat b)),?_⟩
     simp only [Instr.index,asIntOf,Sem.run_bind,Sem.run_pure,Result.andThen_ok,zR hu]
     rw [if_pos (by omega:(0:Int)≤(n:Int)),Int.toNat_natCast,hq3]
     simp [UInt8.toNat_ofNat_of_lt' kg]
    cases h
  cases h
 cases h
end Go.Px
end
section
namespace Go.Px
open Go Go.RowKit
variable {P:Program} {F:zD} {V:qw} {B:Nat} {w0 w:World} {H:Hp}
theorem Wv (a b:IntKind):gN a b=true↔a=b:=by cases a<;>cases b<;>simp [gN,QB]
theorem eL {k:IntKind} {n:Nat} (h:UN k (.ofNat n)=true):n<2^k.bits:=by
 have:=((u3 k _).1 h).2
 have h':(n:Int)≤ZO k:=this
 cases k<;>simp only [ZO]at h'<;>simp only [IntKind.bits,Nat.reducePow]<;>omega
theorem lq {k:IntKind} {op:BinOp} {a b r:Nat} (ha:UN k (.ofNat a)=true) (hb:UN k (.ofNat b)=true) (h:VQ op a b=some r) (w:World):
 (Op.intBits op k (.ofNat a) (.ofNat b)).run P w= .ok (.int k (.ofNat r)) w:=by
 have ea:(BitVec.ofInt k.bits (.ofNat a)).toNat=a:=by
  rw [show(Int.ofNat a)=(a:Int)from rfl,BitVec.ofInt_natCast,BitVec.toNat_ofNat,Nat.mod_eq_of_lt (eL ha)]
 have eb:(BitVec.ofInt k.bits (.ofNat b)).toNat=b:=by
  rw [show(Int.ofNat b)=(b:Int)from rfl,BitVec.ofInt_natCast,BitVec.toNat_ofNat,Nat.mod_eq_of_lt (eL hb)]
 have up: ∀n:Nat,(n:Int)≤ZO k→k.wrap (n:Int)=(n:Int):=fun n hn=>jq ((u3 k _).2 ⟨by cases k<;>simp only [G7]<;>omega,hn⟩)
 have hka:=((u3 k _).1 ha).2
 have HX:=((u3 k _).1 hb).2
 have p2: ∃m,ZO k+1=((2^m:Nat):Int):=by
  cases k with
  |i8=>exact⟨7,by decide⟩
  |i16=>exact⟨15,by decide⟩
  |i32=>exact⟨31,by decide⟩
  |i64=>exact⟨63,by decide⟩
  |u8=>exact⟨8,by decide⟩
  |u16=>exact⟨16,by decide⟩
  |u32=>exact⟨32,by decide⟩
  |u64=>exact⟨64,by decide⟩
 obtain⟨m,hm⟩:=p2
 have hka':a<2^m:=by
  have:(a:Int)≤ZO k:=hka
  have h2:(a:Int)<((2^m:Nat):Int):=by omega
  exact Int.ofNat_lt.1 h2
 have hkb':b<2^m:=by
  have:(b:Int)≤ZO k:=HX
  have h2:(b:Int)<((2^m:Nat):Int):=by omega
  exact Int.ofNat_lt.1 h2
 have fin: ∀n:Nat,n<2^m→k.wrap (n:Int)=(n:Int):=fun n hn=>up n (by
  have:(n:Int)<((2^m:Nat):Int):=Int.ofNat_lt.2 hn
  omega)
 cases op<;>simp only [VQ]at h<;>try (cases h;done)
 ·cases h
  simp only [Op.intBits,Sem.run_pure]
  rw [BitVec.toNat_and,ea,eb,fin _ (Nat.lt_of_le_of_lt Nat.and_le_left hka')];rfl
 ·cases h
  simp only [Op.intBits,Sem.run_pure]
  rw [BitVec.toNat_or,ea,eb,fin _ (Nat.or_lt_two_pow hka' hkb')];rfl
 ·cases h
  simp only [Op.intBits,Sem.run_pure]
  rw [BitVec.toNat_xor,ea,eb,fin _ (Nat.xor_lt_two_pow hka' hkb')];rfl
 cases h
 simp only [Op.intBits,Sem.run_pure]
 have key: ∀(n:Nat) (x y:BitVec n),(x &&& ~~~y)=x^^^(x &&& y):=by
  intro n x y
  ext i hi
  simp only [BitVec.getElem_and,BitVec.getElem_not,BitVec.getElem_xor]
  cases x[i]<;>cases y[i]<;>rfl
 rw [key,BitVec.toNat_xor,BitVec.toNat_and,ea,eb,fin _ (Nat.xor_lt_two_pow hka' (Nat.lt_of_le_of_lt Nat.and_le_left hka'))];rfl
theorem r4 (hF:dJ F V.ρ) {op:BinOp} {k:IntKind} {x y:SInt} {v:z0} (h:jR F op k x y=some v) (t:TypeId) (w:World):
 ∃v',zS V v v'∧(binOp op t (.int k (x.ev V.ρ)) (.int k (y.ev V.ρ))).run P w= .ok v' w:=by
 have num: ∀(s:Option SInt) (z:Int),(∀r,s=some r→r.ev V.ρ=z)→(match s with
  |none=>none
  |some r=>match SInt.wrap F k r with
   |none=>none
   |some r=>some (z0.int k r))=some v→zS V v (.int k (k.wrap z)):=by
  intro s z hs h
  cases s with
  |none=>cases h
  |some r=>
   cases hw:SInt.wrap F k r with
   |none=>simp only [hw]at h;cases h
   |some r'=>
    simp only [hw]at h;cases h
    rw [←hs r rfl,←SInt.xF hF hw]
    exact .int k r'
 have Ag: ∀(s:Option Bool) (neg b:Bool),(∀r,s=some r→xor r neg=b)→(match s with
  |none=>none
  |some c=>some (z0.bool (xor c neg)))=some v→zS V v (.bool b):=by
  intro s neg b hs h
  cases s with
  |none=>cases h
  |some r=>cases h;rw [hs r rfl];exact .bool _
 cases op<;>simp only [jR]at h
 case add=>exact⟨_,num _ _ (fun r hr=>SInt.MP hr) h,by simp [binOp,Op.intArith]⟩
 case sub=>exact⟨_,num _ _ (fun r hr=>SInt.nA hr) h,by simp [binOp,Op.intArith]⟩
 case mul=>exact⟨_,num _ _ (fun r hr=>SInt.Nn hr) h,by simp [binOp,Op.intArith]⟩
 case quo=>
  split at h
  ·rename_i a b
   cases hb:Z9 b 0 with
   |true=>rw [hb]at h;cases h
   |false=>
    rw [hb]at h
    have wY:b≠0:=fun e=>by rw [(ZA b 0).2 e]at hb;cases hb
    exact⟨_,num (some (.lit (Int.tdiv a b))) (Int.tdiv a b) (fun r hr=>by cases hr;rfl) h,by simp [binOp,Op.intDiv,SInt.ev,wY]⟩
  cases h
 case rem=>
  split at h
  ·rename_i a b
   cases hb:Z9 b 0 with
   |true=>rw [hb]at h;cases h
   |false=>
    rw [hb]at h
    cases h
    have wY:b≠0:=fun e=>by rw [(ZA b 0).2 e]at hb;cases hb
    exact⟨_,.int k (.lit (Int.tmod a b)),by simp [binOp,Op.intDiv,SInt.ev,wY]⟩
  cases h
 case eql=>exact⟨_,Ag _ _ _ (fun r hr=>by rw [SInt.C8 hF hr,Bool.xor_false]) h,by simp [binOp,Op.intCmp,BEq.beq]⟩
 case neq=>exact⟨_,Ag _ _ (! decide (x.ev V.ρ=y.ev V.ρ)) (fun r hr=>by rw [SInt.C8 hF hr,Bool.xor_true]) h,by simp [binOp,Op.intCmp,bne,BEq.beq]⟩
 case lss=>exact⟨_,Ag _ _ _ (fun r hr=>by rw [SInt.Jl hF hr,Bool.xor_false]) h,by simp [binOp,Op.intCmp]⟩
 case gtr=>exact⟨_,Ag _ _ _ (fun r hr=>by rw [SInt.Jl hF hr,Bool.xor_false]) h,by simp [binOp,Op.intCmp]⟩
 case leq=>exact⟨.bool (decide (x.ev V.ρ≤y.ev V.ρ)),Ag _ _ _ (fun r hr=>by
  rw [SInt.Jl hF hr,Bool.xor_true]
  by_cases c:y.ev V.ρ<x.ev V.ρ
  ·rw [decide_eq_true c,decide_eq_false (by omega)];rfl
  rw [decide_eq_false c,decide_eq_true (by omega)];rfl) h,by simp [binOp,Op.intCmp]⟩
 case geq=>exact⟨.bool (decide (x.ev V.ρ≥y.ev V.ρ)),Ag _ _ _ (fun r hr=>by
  rw [SInt.Jl hF hr,Bool.xor_true]
  by_cases c:x.ev V.ρ<y.ev V.ρ
  ·rw [decide_eq_true c,decide_eq_false (by omega)];rfl
  rw [decide_eq_false c,decide_eq_true (by omega)];rfl) h,by simp [binOp,Op.intCmp]⟩
 case shl=>cases h
 case shr=>cases h
 all_goals
  split at h
  ·rename_i a b
   cases hk:UN k (.ofNat a) && UN k (.ofNat b)with
   |false=>rw [hk]at h;cases h
   |true=>
    rw [Bool.and_eq_true]at hk
    rw [hk.1,hk.2]at h
    simp only [Bool.and_self,cond_true]at h
    split at h
    ·rename_i r hr
     cases h
     exact⟨_,.int k (.lit (.ofNat r)),by simpa [binOp,SInt.ev] using lq (P:=P) hk.1 hk.2 hr w⟩
    cases h
  cases h
end Go.Px
end
section
namespace Go.Px
open Go Go.RowKit
variable {P:Program} {F:zD} {V:qw} {B:Nat} {w0 w:World} {H:Hp}
theorem Yj (a b:List Nat):wi a b=true↔a=b:=by
 induction a generalizing b with
 |nil=>cases b<;>simp [wi]
 |cons x l ih=>cases b with
  |nil=>simp [wi]
  |cons y m=>simp [wi,ih]
theorem bytes_inj {a b:List Nat} (ha:zk a=true) (hb:zk b=true) (h:a.map UInt8.ofNat=b.map UInt8.ofNat):a=b:=by
 induction a generalizing b with
 |nil=>cases b with
  |nil=>rfl
  |cons y m=>simp at h
 |cons x l ih=>cases b with
  |nil=>simp at h
  |cons y m=>
   simp only [List.map_cons,List.cons.injEq]at h
   have hx:=(qW _).1 ha
   have hy:=(qW _).1 hb
   have e:x=y:=by
    have:=congrArg UInt8.toNat h.1
    rw [UInt8.toNat_ofNat_of_lt' (hx x (by simp)),UInt8.toNat_ofNat_of_lt' (hy y (by simp))]at this
    exact this
   rw [e,ih ((qW _).2 fun n hn=>hx n (by simp [hn])) ((qW _).2 fun n hn=>hy n (by simp [hn])) h.2]
theorem aD {a b:List Nat} {s t:ByteArray} (hs:s.data.toList=Yr V.ρ a) (ht:t.data.toList=Yr V.ρ b) {c:Bool}
 (h:(bif wi a b then some true else bif zk a && zk b then some false else none)=some c):(s.toList==t.toList)=c:=by
 rw [ByteArray.toList_eq,ByteArray.toList_eq,hs,ht]
 cases e:wi a b with
 |true=>rw [e]at h;cases h;rw [(Yj a b).1 e];simp
 |false=>
  rw [e]at h
  cases e2:zk a && zk b with
  |false=>rw [e2]at h;cases h
  |true=>
   rw [e2]at h;cases h
   rw [Bool.and_eq_true]at e2
   rw [Zo _ _ ((qW a).1 e2.1),Zo _ _ ((qW b).1 e2.2)]
   apply beq_eq_false_iff_ne.2
   intro hh
   rw [(Yj a b).2 (bytes_inj e2.1 e2.2 hh)]at e
   cases e
def MF (P:Program) (V:qw) (B:Nat) (w0:World) (H:Hp) (d:Nat) (eq:TypeId→z0→z0→Option Bool):Prop:=
 ∀t x y c,eq t x y=some c→ ∀u v w,yD B w0 V H w→zS V x u→zS V y v→ ∀d',d≤d'→(Op.equalIn d' t u v).run P w= .ok c w
theorem fV {d d':Nat} {eq:TypeId→z0→z0→Option Bool} (hd:d≤d') (ih:MF P V B w0 H d eq) {e:TypeId} {n:Nat} {zC0 bs:List z0} {xs ys:Array Value}
 (hx:yw V zC0 xs.toList) (hy:yw V bs ys.toList) (xp: ∀u,u ∈ zC0→u.yK=true) (P8: ∀u,u ∈ bs→u.yK=true) (hW:yD B w0 V H w):
 ∀(m i:Nat) (c:Bool),QY (eq e) P e n zC0 bs m i=some c→
 (forIn (List.range' i m) ((none,()):Option Bool×Unit) (fun i __s=>do
  if(!(←Op.equalIn d' e (←part e xs (i*n)) (←part e ys (i*n))))=true then pure (.done (some false,()))else pure (.yield (none,()))):Sem (Option Bool×Unit)).run P w=
  .ok (if c then(none,())else(some false,())) w:=by
 intro m
 induction m with
 |zero=>intro i c h;cases h;simp
 |succ m ihm=>
  intro i c h
  simp only [QY]at h
  split at h
  ·rename_i a b ha hb
   obtain⟨a',ra,P6⟩:=uk ha hx xp w
   obtain⟨b',rb,U0⟩:=uk hb hy P8 w
   rw [List.range'_succ,List.forIn_cons]
   cases he:eq e a b with
   |none=>rw [he]at h;cases h
   |some r=>
    rw [he]at h
    have hr:=ih e a b r he a' b' w hW ra rb d' hd
    simp only [Sem.run_bind,P6,U0,hr,Result.andThen_ok]
    cases r with
    |true=>simpa using ihm (i+1) c h
    |false=>cases h;simp
  cases h
theorem mq {d d':Nat} {eq:TypeId→z0→z0→Option Bool} (hd:d≤d') (ih:MF P V B w0 H d eq) {zC0 bs:List z0} {xs ys:Array Value}
 (hx:yw V zC0 xs.toList) (hy:yw V bs ys.toList) (xp: ∀u,u ∈ zC0→u.yK=true) (P8: ∀u,u ∈ bs→u.yK=true) (hW:yD B w0 V H w):
 ∀(fs:List Field) (c:Bool),Wj eq P zC0 bs fs=some c→(Op.eqFields d' xs ys fs).run P w= .ok c w:=by
 intro fs
 induction fs with
 |nil=>intro c h;cases h;simp [Op.eqFields]
 |cons f fs ihf=>
  intro c h
  simp only [Wj]at h
  cases hn:f.name== "_" with
  |true=>rw [hn]at h;cases h
  |false=>
   rw [hn]at h
   simp only [cond_false]at h
   have hn':f.name≠ "_" :=by simpa using hn
   split at h
   ·rename_i a b ha hb
    obtain⟨a',ra,P6⟩:=uk ha hx xp w
    obtain⟨b',rb,U0⟩:=uk hb hy P8 w
    cases he:eq f.type a b with
    |none=>rw [he]at h;cases h
    |some r=>
     rw [he]at h
     have hr:=ih f.type a b r he a' b' w hW ra rb d' hd
     simp only [Op.eqFields,if_pos hn',Sem.run_bind,P6,U0,hr,Result.andThen_ok]
     cases r with
     |true=>simpa using ihf c h
     |false=>cases h;simp
   cases h
theorem E0 (hW:yD B w0 V H w) {i n b base S:Nat} (hi:H.p6 i=some n) (hb:V.uD i=some (b,base,S)):
 ∃o arr el,H.t.get i=some o∧w.heap[b]? =some (.cells arr el (0,0)):=by
 unfold Hp.p6 at hi
 split at hi
 ·rename_i c m ho
  obtain⟨x,hx,hr⟩:=hW.obj i _ b base S ho hb
  cases hr with
  |cells _ _ _ _ _ _ arr el fz aw=>obtain⟨rfl,_⟩:=aw rfl;exact⟨_,arr,el,ho,hx⟩
 cases hi
theorem pj (hW:yD B w0 V H w) {i n b base S:Nat} (hi:H.p6 i=some n) (hb:V.uD i=some (b,base,S)):B≤b:=by
 unfold Hp.p6 at hi
 split at hi
 ·rename_i c m ho
  obtain⟨x,hx,hr⟩:=hW.obj i _ b base S ho hb
  cases hr with
  |cells _ _ _ _ _ _ arr el fz aw=>exact(aw rfl).2
 cases hi
theorem JY {w:World} {b:Nat} {x:Array Value} {el:TypeId} (h:w.heap[b]? =some (.cells x el (0,0))) (o:Nat) (s:Option Nat):w.frozen? ⟨b,o,s⟩=false:=by
 simp [World.frozen?,h]
theorem tn {a b:Addr} {x y:Array Value} {el Xv:TypeId} (ha:w.heap[a.block]? =some (.cells x el (0,0))) (hb:w.heap[b.block]? =some (.cells y Xv (0,0))) (wY:a.block≠b.block):
 (sameAddr a b).run P w= .ok false w:=by
 obtain⟨ab,ao,zC0⟩:=a
 obtain⟨bb,bo,bs⟩:=b
 have f1:=JY ha
 have f2:=JY hb
 have s1:w.shape? ab=some (el,x.size):=by simp [World.shape?,ha]
 have s2:w.shape? bb=some (Xv,y.size):=by simp [World.shape?,hb]
 have hne':(ab==bb)=false:=by simpa using wY
 simp only [sameAddr,hne',Bool.false_eq_true,if_false]
 simp [frozen,shape,Sem.run,Bind.bind,Sem.bind,Pure.pure,noView,viewAt,mayBeOne,stringish,f1,f2,s1,s2]
theorem UY {b o p:Nat} (w:World):(sameAddr ⟨b,o,none⟩ ⟨b,p,none⟩).run P w= .ok (o==p) w:=by
 have e:((⟨b,o,none⟩:Addr)==⟨b,p,none⟩)=(o==p):=by
  rw [Bool.eq_iff_iff,beq_iff_eq,beq_iff_eq]
  exact⟨fun h=>by cases h;rfl,fun h=>by rw [h]⟩
 simp [sameAddr,e]
set_option maxHeartbeats 800000 in
theorem Gb (hF:dJ F V.ρ): ∀n,MF P V B w0 H n (VA P F H n):=by
 intro n
 induction n with
 |zero=>intro t x y c h;cases h
 |succ n ih=>
  intro t x y c h u v w hW hx hy d hd
  obtain⟨d,rfl⟩: ∃e,d=e+1:=⟨d-1,by omega⟩
  have hd:n≤d:=by omega
  unfold VA at h
  split at h
  ·split at h
   ·rename_i e
    cases hx;cases hy;cases h
    exact run_equalIn_bool' w d t _ _ e
   cases h
  ·split at h
   ·rename_i k a j b _ k' e
    cases hk:gN k j with
    |false=>rw [hk]at h;cases h
    |true=>
     rw [hk]at h
     have:=(Wv k j).1 hk
     subst this
     cases hx;cases hy
     rw [run_equalIn_int w d t k k' _ _ e,SInt.C8 hF h]
     rfl
   cases h
  ·split at h
   ·rename_i e
    obtain⟨s,rfl,hs⟩:=hx.ux
    obtain⟨q,rfl,hq⟩:=hy.ux
    rw [run_equalIn_string w d t _ _ e,aD hs hq h]
   cases h
  ·split at h
   ·rename_i el e
    split at h
    ·cases hx;cases hy;cases h
     simp [Op.equalIn,zR e]
    ·cases hx;cases hy;cases h
     simp [Op.equalIn,zR e]
    ·cases hx;cases hy;cases h
     simp [Op.equalIn,zR e]
    rename_i i o j p
    obtain⟨b1,a1,S1,h1,rfl⟩:=hx.Za
    obtain⟨b2,a2,S2,h2,rfl⟩:=hy.Za
    split at h
    ·cases h
    ·rename_i m hm0 hm
     have Zi:m≠0:=fun e=>hm0 e
     have step:(Op.equalIn (d+1) t (.pointer (some ⟨b1,a1+o,none⟩)) (.pointer (some ⟨b2,a2+p,none⟩))).run P w=(sameAddr ⟨b1,a1+o,none⟩ ⟨b2,a2+p,none⟩).run P w:=by
      simp [Op.equalIn,zR e,qA hm,Zi]
     rw [step]
     cases LR:Nat.beq i j with
     |true=>
      have:=Nat.eq_of_beq_eq_true LR
      subst this
      rw [h1]at h2
      cases h2
      rw [LR]at h
      cases h
      rw [UY]
      congr 1
      rw [Bool.eq_iff_iff,beq_iff_eq,Nat.beq_eq]
      omega
     |false=>
      rw [LR]at h
      simp only [cond_false]at h
      split at h
      ·rename_i r1 r2 LW hr2
       cases h
       obtain⟨o1,x1,e1,ho1,pX⟩:=E0 hW LW h1
       obtain⟨o2,x2,e2,ho2,kg⟩:=E0 hW hr2 h2
       have wY:i≠j:=fun e=>by rw [e,Nat.beq_refl]at LR;cases LR
       exact tn pX kg ((hW.inj i j o1 o2 b1 b2 a1 a2 S1 S2 ho1 ho2 h1 h2 wY).resolve_right (Nat.not_lt.2 (pj hW LW h1)))
      cases h
    cases h
   cases h
  ·split at h
   ·rename_i e
    cases hx;cases hy;cases h
    simp [Op.equalIn,zR e]
   cases h
  ·split at h
   ·rename_i e
    cases hx;cases hy;cases h
    simp [Op.equalIn,zR e]
   cases h
  ·split at h
   ·rename_i e
    cases hx;cases hy;cases h
    simp [Op.equalIn,zR e]
   cases h
  ·split at h
   ·rename_i e
    cases hx;cases h
    cases hy<;>simp [Op.equalIn,zR e]
   cases h
  ·split at h
   ·rename_i e
    cases hx<;>cases hy<;>cases h
    all_goals simp [Op.equalIn,zR e]
   cases h
  ·split at h
   ·rename_i e
    cases hx;cases h
    cases hy<;>simp [Op.equalIn,zR e]
   cases h
  ·split at h
   ·rename_i e
    cases hx;cases hy;cases h
    simp [Op.equalIn,zR e]
   cases h
  ·split at h
   ·rename_i e
    cases hx;cases hy;cases h
    simp [Op.equalIn,zR e]
   cases h
  ·split at h
   ·rename_i e
    cases hx;cases hy;cases h
    simp [Op.equalIn,zR e]
   cases h
  ·split at h
   ·rename_i e
    cases hx;cases hy;cases h
    simp [Op.equalIn,zR e]
   cases h
  ·rename_i xs ys
   obtain⟨xa,rfl,hlx,xp⟩:=hx.Qh
   obtain⟨ya,rfl,hly,P8⟩:=hy.Qh
   split at h
   ·rename_i fs e
    cases UJ:P.stoodInHeld t with
    |true=>rw [UJ]at h;cases h
    |false=>
     rw [UJ]at h
     have e':P.underlying t=some (.struct (P.fieldsOf t)):=by
      unfold Program.fieldsOf
      have:P.underlying t=some (.struct fs):=e
      rw [this]
     have hfs:P.fieldsOf t=fs:=by
      have:P.underlying t=some (.struct fs):=e
      unfold Program.fieldsOf
      rw [this]
     rw [run_equalIn_struct w d t xa ya e' UJ,hfs]
     exact mq hd ih hlx hly xp P8 hW fs.toList c h
   ·rename_i len el e
    split at h
    ·rename_i m hm
     have:=fV hd ih (e:=el) (n:=m) hlx hly xp P8 hW len 0 c h
     simp only [Op.equalIn,Sem.run_bind,zR e,Result.andThen_ok,qA hm]
     rw [Std.Legacy.Range.forIn_eq_forIn_range']
     have Y2:(Std.Legacy.Range.mk 0 len 1 (by decide)).size=len:=by simp [Std.Legacy.Range.size]
     rw [Y2]
     refine(congrArg (fun r=>Result.andThen r _) this).trans ?_
     cases c<;>simp
    cases h
   cases h
  cases h
theorem Js (hF:dJ F V.ρ) {op:BinOp} {k yk:IntKind} {x y:SInt} {v:z0} (ho:op= .shl∨op= .shr) (h:Yp F op k x y=some v) (t:TypeId) (w:World):
 ∃v',zS V v v'∧(binOp op t (.int k (x.ev V.ρ)) (.int yk (y.ev V.ρ))).run P w= .ok v' w:=by
 unfold Yp at h
 split at h
 ·rename_i a b
  split at h
  ·cases hb:Nat.ble b 64 with
   |false=>rw [hb]at h;cases h
   |true=>
    rw [hb]at h
    simp only [cond_true]at h
    split at h
    ·rename_i r hr
     cases h
     have e:=SInt.xF hF hr
     refine⟨.int k (r.ev V.ρ),.int k r,?_⟩
     rw [e]
     have NJ: ¬((Int.ofNat b)<0):=by have:=Int.natCast_nonneg b;show¬((b:Int)<0);omega
     show(Op.shift .shl k (Int.ofNat a) yk (Int.ofNat b)).run P w=_
     unfold Op.shift
     rw [if_neg NJ]
     simp only [Sem.run_pure]
     congr 3
    cases h
  ·cases hb:Nat.ble b 64 with
   |false=>rw [hb]at h;cases h
   |true=>
    rw [hb]at h
    cases h
    refine⟨_,.int k (.lit _),?_⟩
    have NJ: ¬((Int.ofNat b)<0):=by have:=Int.natCast_nonneg b;show¬((b:Int)<0);omega
    show(Op.shift .shr k (Int.ofNat a) yk (Int.ofNat b)).run P w=_
    unfold Op.shift
    rw [if_neg NJ]
    simp only [Sem.run_pure]
    congr 2
    show Int.fdiv (a:Int) (2^(min (Int.ofNat b).toNat k.bits))=((a/2^(Nat.min b k.bits):Nat):Int)
    rw [Int.fdiv_eq_ediv_of_nonneg _ (by exact Int.le_of_lt (Int.pow_pos (by decide)))]
    rw [Int.natCast_ediv,Int.natCast_pow]
    rfl
  cases h
 cases h
theorem V4 {l:List Nat} {s:ByteArray} (hl:zk l=true) (h:s.data.toList=Yr V.ρ l):s.size=l.length:=by
 rw [Zo _ _ ((qW l).1 hl)]at h
 have h2:s.size=s.data.toList.length:=by cases s;rfl
 rw [h2,h];simp
theorem n7 (ρ:Nat→Int) (a b:List Nat):Yr ρ (a++b)=Yr ρ a++Yr ρ b:=by
 induction a with
 |nil=>rfl
 |cons x l ih=>simp [Yr,ih]
theorem xd {op:BinOp} {t:TypeId} {x y:Operand} {a b:z0} {u v:Value} (h:mh P t (eH x||eH y) a b=true) (ha:zS V a u) (hb:zS V b v) (w:World):
 (eqGuard op t x y u v).run P w= .ok () w:=by
 cases op<;>try (exact rfl)
 all_goals
  cases ha<;>cases hb<;>try (exact rfl)
  ·simp only [mh]at h
   cases x<;>cases y<;>first|(cases h;done)|exact rfl
  simp only [mh,Bool.not_eq_true']at h
  exact run_eqGuard_agg w _ t x y _ _ h
theorem ny {op:BinOp} (ho:op= .eql∨op= .neq) {a b:z0} {u v:Value} {t:TypeId} {c:Bool} (ha:zS V a u) (hb:zS V b v) (Gu: ∀k s j r,¬(a= .int k s∧b= .int j r)) (SJ: ∀s r,¬(a= .str s∧b= .str r))
 (h:(Op.equalIn 10000 t u v).run P w= .ok c w):(binOp op t u v).run P w= .ok (.bool (if op= .eql then c else !c)) w:=by
 have h':(Op.equal t u v).run P w= .ok c w:=h
 rcases ho with rfl|rfl
 all_goals
  cases ha<;>cases hb<;>first
   |exact absurd ⟨rfl,rfl⟩ (Gu _ _ _ _)
   |exact absurd ⟨rfl,rfl⟩ (SJ _ _)
   |(simp only [binOp,Sem.run_bind,h',Result.andThen_ok,Sem.run_pure];rfl)
theorem fT (hF:dJ F V.ρ) (hW:yD B w0 V H w) {op:BinOp} {t:TypeId} {x y:Operand} {a b:OV} {r:zN} {u v:Value} (ha: ∀z,a=some z→zS V z u) (hb: ∀z,b=some z→zS V z v)
 (h:pN P F op t (eH x||eH y) a b H=some r): ∃z z',r= .val z H∧zS V z z'∧(eqGuard op t x y u v).run P w= .ok () w∧(binOp op t u v).run P w= .ok z' w:=by
 unfold pN at h
 split at h
 ·rename_i a b
  replace ha:=ha _ rfl
  replace hb:=hb _ rfl
  obtain⟨z,hz,rfl⟩:=qP h
  clear h
  unfold vI at hz
  split at hz
  ·rename_i k s j q
   obtain rfl:=ha.uw
   obtain rfl:=hb.uw
   have hg:(eqGuard op t x y (.int k (s.ev V.ρ)) (.int j (q.ev V.ρ))).run P w= .ok () w:=by cases op<;>rfl
   split at hz
   ·obtain⟨z',h1,h2⟩:=Js (P:=P) hF (.inl rfl) hz t w;exact⟨z,z',rfl,h1,hg,h2⟩
   ·obtain⟨z',h1,h2⟩:=Js (P:=P) hF (.inr rfl) hz t w;exact⟨z,z',rfl,h1,hg,h2⟩
   cases hk:gN k j with
   |false=>rw [hk]at hz;cases hz
   |true=>
    rw [hk]at hz
    have:=(Wv k j).1 hk
    subst this
    obtain⟨z',h1,h2⟩:=r4 (P:=P) hF hz t w;exact⟨z,z',rfl,h1,hg,h2⟩
  ·rename_i s q
   obtain⟨s',rfl,hs⟩:=ha.ux
   obtain⟨q',rfl,hq⟩:=hb.ux
   have hg:(eqGuard op t x y (.string s') (.string q')).run P w= .ok () w:=by cases op<;>rfl
   split at hz
   ·cases hc:zk s && zk q && Nat.ble (s.length+q.length) yi with
    |false=>rw [hc]at hz;cases hz
    |true=>
     rw [hc]at hz
     cases hz
     simp only [Bool.and_eq_true]at hc
     have hle:=Nat.le_of_ble_eq_true hc.2
     have h1:=V4 hc.1.1 hs
     have h2:=V4 hc.1.2 hq
     refine⟨_,.string (s'++q'),rfl,.str _ _ ?_,hg,?_⟩
     ·rw [n7,←hs,←hq]
      simp
     have: ¬(((s'.size+q'.size:Nat):Int)>IntKind.i64.max):=by
      rw [h1,h2]
      have hm:(IntKind.i64.max:Int)=9223372036854775807:=by decide
      rw [hm]
      unfold yi at hle
      omega
     simp only [binOp,Op.stringOp,if_neg this,Sem.run_pure]
   ·refine⟨z,?_⟩
    cases e:(bif wi s q then some true else bif zk s && zk q then some false else none:Option Bool)with
    |none=>
     exfalso
     cases e1:wi s q with
     |true=>rw [e1]at e;cases e
     |false=>rw [e1]at e hz;cases e2:zk s && zk q with
      |true=>rw [e2]at e;cases e
      |false=>rw [e2]at hz;cases hz
    |some c=>
     have hz':z= .bool c:=by
      cases e1:wi s q with
      |true=>rw [e1]at e hz;cases e;cases hz;rfl
      |false=>rw [e1]at e hz;cases e2:zk s && zk q with
       |true=>rw [e2]at e hz;cases e;cases hz;rfl
       |false=>rw [e2]at hz;cases hz
     subst hz'
     exact⟨.bool c,rfl,.bool c,hg,by simp only [binOp,Op.stringOp,Sem.run_pure,aD hs hq e]⟩
   ·refine⟨z,?_⟩
    cases e:(bif wi s q then some true else bif zk s && zk q then some false else none:Option Bool)with
    |none=>
     exfalso
     cases e1:wi s q with
     |true=>rw [e1]at e;cases e
     |false=>rw [e1]at e hz;cases e2:zk s && zk q with
      |true=>rw [e2]at e;cases e
      |false=>rw [e2]at hz;cases hz
    |some c=>
     have hz':z= .bool (!c):=by
      cases e1:wi s q with
      |true=>rw [e1]at e hz;cases e;cases hz;rfl
      |false=>rw [e1]at e hz;cases e2:zk s && zk q with
       |true=>rw [e2]at e hz;cases e;cases hz;rfl
       |false=>rw [e2]at hz;cases hz
     subst hz'
     exact⟨.bool (!c),rfl,.bool (!c),hg,by simp only [binOp,Op.stringOp,Sem.run_pure,aD hs hq e]⟩
   cases hz
  rename_i Gu SJ
  have hni': ∀k s j r,¬(a= .int k s∧b= .int j r):=fun k s j r e=>Gu k s j r e.1 e.2
  have hns': ∀s r,¬(a= .str s∧b= .str r):=fun s r e=>SJ s r e.1 e.2
  split at hz
  ·cases hc:mh P t (eH x||eH y) a b with
   |false=>rw [hc]at hz;cases hz
   |true=>
    rw [hc]at hz
    simp only [cond_true]at hz
    split at hz
    ·rename_i c he
     cases hz
     have:=Gb (P:=P) (B:=B) (w0:=w0) (H:=H) hF 60 t a b c he u v w hW ha hb 10000 (by decide)
     exact⟨_,.bool c,rfl,.bool c,xd hc ha hb w,by simpa using ny (op:= .eql) (.inl rfl) ha hb hni' hns' this⟩
    cases hz
  ·cases hc:mh P t (eH x||eH y) a b with
   |false=>rw [hc]at hz;cases hz
   |true=>
    rw [hc]at hz
    simp only [cond_true]at hz
    split at hz
    ·rename_i c he
     cases hz
     have:=Gb (P:=P) (B:=B) (w0:=w0) (H:=H) hF 60 t a b c he u v w hW ha hb 10000 (by decide)
     exact⟨_,.bool (!c),rfl,.bool (!c),xd hc ha hb w,by simpa using ny (op:= .neq) (.inr rfl) ha hb hni' hns' this⟩
    cases hz
  cases hz
 cases h
theorem cD (hF:dJ F V.ρ) {op:UnOp} {a:OV} {r:zN} {u:Value} (ha: ∀z,a=some z→zS V z u) (h:cC F op a H=some r) (w:World):
 ∃z z',r= .val z H∧zS V z z'∧(Op.unary op u).run P w= .ok z' w:=by
 unfold cC at h
 split at h
 ·rename_i a
  replace ha:=ha _ rfl
  obtain⟨z,hz,rfl⟩:=qP h
  unfold Xk at hz
  split at hz
  ·cases ha;cases hz;exact⟨_,_,rfl,.bool _,by simp [Op.unary]⟩
  ·rename_i k s
   obtain rfl:=ha.uw
   split at hz
   ·rename_i q hq
    split at hz
    ·rename_i q' XU
     cases hz
     refine⟨_,.int k (q'.ev V.ρ),rfl,.int k q',?_⟩
     rw [SInt.xF hF XU,SInt.nA hq]
     simp [Op.unary,Op.intArith,SInt.ev]
    cases hz
   cases hz
  ·rename_i k z'
   obtain rfl:=ha.uw
   cases hk:UN k z' with
   |false=>rw [hk]at hz;cases hz
   |true=>
    rw [hk]at hz
    simp only [cond_true]at hz
    have hkk:=(u3 k z').1 hk
    have key: ∀(n:Nat) (m:Nat),m<2^n→((BitVec.ofInt n (2^n-1))^^^(BitVec.ofInt n (m:Int))).toNat=2^n-1-m:=by
     intro n m hm
     have e1:BitVec.ofInt n ((2:Int)^n-1)=BitVec.allOnes n:=by
      apply BitVec.eq_of_toNat_eq
      rw [BitVec.toNat_allOnes,BitVec.toNat_ofInt]
      have hp:1≤2^n:=Nat.one_le_two_pow
      have:((2:Int)^n-1)=((2^n-1:Nat):Int):=by rw [Int.ofNat_sub hp,Int.natCast_pow];rfl
      rw [this]
      have:(((2^n-1:Nat):Int)%((2^n:Nat):Int))=((2^n-1:Nat):Int):=by
       rw [←Int.natCast_emod,Nat.mod_eq_of_lt (by omega)]
      rw [this];rfl
     rw [e1,BitVec.allOnes_xor,BitVec.toNat_not,BitVec.ofInt_natCast,BitVec.toNat_ofNat,Nat.mod_eq_of_lt hm]
    split at hz<;>first
     |(cases hz;done)
     |skip
    all_goals
     cases hz
     simp only [G7,ZO]at hkk
     obtain⟨m,rfl⟩:=Int.eq_ofNat_of_zero_le hkk.1
     refine⟨_,_,rfl,.int _ (.lit _),?_⟩
     simp only [Op.unary,Op.intBits,SInt.ev,IntKind.signed,Bool.false_eq_true,if_false,Sem.run_pure]
    ·have hm:IntKind.max .u8=(2:Int)^8-1:=by decide
     have e:(BitVec.ofInt (IntKind.bits .u8) (IntKind.max .u8)^^^BitVec.ofInt (IntKind.bits .u8) (m:Int)).toNat=2^8-1-m:=by
      rw [hm];exact key 8 m (by omega)
     rw [e,jq ((u3 _ _).2 ⟨by simp only [G7];omega,by simp only [ZO,Nat.reducePow];omega⟩)]
     congr 2
     simp only [ZO,Nat.reducePow]
     omega
    ·have hm:IntKind.max .u16=(2:Int)^16-1:=by decide
     have e:(BitVec.ofInt (IntKind.bits .u16) (IntKind.max .u16)^^^BitVec.ofInt (IntKind.bits .u16) (m:Int)).toNat=2^16-1-m:=by
      rw [hm];exact key 16 m (by omega)
     rw [e,jq ((u3 _ _).2 ⟨by simp only [G7];omega,by simp only [ZO,Nat.reducePow];omega⟩)]
     congr 2
     simp only [ZO,Nat.reducePow]
     omega
    ·have hm:IntKind.max .u32=(2:Int)^32-1:=by decide
     have e:(BitVec.ofInt (IntKind.bits .u32) (IntKind.max .u32)^^^BitVec.ofInt (IntKind.bits .u32) (m:Int)).toNat=2^32-1-m:=by
      rw [hm];exact key 32 m (by omega)
     rw [e,jq ((u3 _ _).2 ⟨by simp only [G7];omega,by simp only [ZO,Nat.reducePow];omega⟩)]
     congr 2
     simp only [ZO,Nat.reducePow]
     omega
    have hm:IntKind.max .u64=(2:Int)^64-1:=by decide
    have e:(BitVec.ofInt (IntKind.bits .u64) (IntKind.max .u64)^^^BitVec.ofInt (IntKind.bits .u64) (m:Int)).toNat=2^64-1-m:=by
     rw [hm];exact key 64 m (by omega)
    rw [e,jq ((u3 _ _).2 ⟨by simp only [G7];omega,by simp only [ZO,Nat.reducePow];omega⟩)]
    congr 2
    simp only [ZO,Nat.reducePow]
    omega
  cases hz
 cases h
theorem mf (hF:dJ F V.ρ) {s d:TypeId} {a:OV} {r:zN} {u:Value} (ha: ∀z,a=some z→zS V z u) (h:xX P F s d a H=some r) (w:World):
 ∃z z',r= .val z H∧zS V z z'∧(convert s d u).run P w= .ok z' w:=by
 unfold xX at h
 split at h
 ·rename_i a
  replace ha:=ha _ rfl
  obtain⟨z,hz,rfl⟩:=qP h
  unfold Bu at hz
  split at hz
  ·rename_i k q
   obtain rfl:=ha.uw
   split at hz
   ·rename_i k1 k2 h1 h2
    split at hz
    ·rename_i q' hq
     cases hz
     refine⟨_,.int k2 (q'.ev V.ρ),rfl,.int k2 q',?_⟩
     rw [SInt.xF hF hq]
     simp [convert,zR h1,zR h2,Conv.intToInt]
    cases hz
   cases hz
  ·rename_i q
   obtain⟨b,rfl,hb⟩:=ha.ux
   split at hz
   ·rename_i h1 h2
    cases hz
    exact⟨_,.string b,rfl,.str q b hb,by simp [convert,zR h1,zR h2]⟩
   cases hz
  cases hz
 cases h
end Go.Px
end
section
namespace Go.Px
open Go Go.RowKit
variable {P:Program} {F:zD} {V:qw} {B:Nat} {w0 w:World} {H:Hp}
inductive QP (V:qw):Option z0→Option Value→Prop
 |none:QP V none none
 |some {a v} (h:zS V a v):QP V (some a) (some v)
theorem VX {v:Value} {k:IntKind} {n y:Nat} (hv:v= .int k (n:Int)) (hy:n≤y) (c:BoundsCode) (w:World):(Instr.sliceBound v y c).run P w= .ok n w:=by
 subst hv
 simp only [Instr.sliceBound,asIntOf,Sem.run_bind,Sem.run_pure,Result.andThen_ok]
 rw [if_pos ⟨by omega,by omega⟩]
 simp
theorem uu {len cap:Nat} {oi:Option Nat} (hc: ∀c,oi=some c→cap=c) (hl:len≤cap) {lo hi mx:Option z0} {vl vh vm:Option Value}
 (h1:QP V lo vl) (h2:QP V hi vh) (h3:QP V mx vm) {l h:Nat} {m:Option Nat} (hb:qQ len oi lo hi mx=some (l,h,m)) (isS:Bool) (w:World):
 ∃M,(Instr.sliceBounds isS len cap vl vh vm).run P w= .ok (l,h,M) w∧(∀c,m=some c→M=c)∧(m=none→M=cap∧h≤len)∧l≤h∧h≤M∧M≤cap:=by
 unfold qQ at hb
 split at hb
 ·cases hb
 rename_i YR
 split at hb
 ·cases hb
 rename_i m' hm
 split at hb
 ·cases hb
 rename_i h' hh
 split at hb
 ·cases hb
 rename_i l' nW
 cases hb
 have key: ∃M,(match vm with
  |some v=>Instr.sliceBound v cap (if isS then .slice3Acap else .slice3Alen)
  |none=>pure cap:Sem Nat).run P w= .ok M w∧(∀c,m=some c→M=c)∧(m=none→M=cap)∧M≤cap∧vJ len m≤M:=by
  cases h3 with
  |none=>
   cases hm
   refine⟨cap,rfl,fun c Je=>hc c Je,fun _=>rfl,Nat.le_refl _,?_⟩
   cases oi with
   |some c=>exact Nat.le_of_eq (hc c rfl).symm
   |none=>exact hl
  |some hv=>
   unfold Y0 at hm
   simp only at hm
   split at hm
   ·rename_i n hn
    cases hle:Nat.ble n (vJ len oi)with
    |false=>rw [hle]at hm;cases hm
    |true=>
     rw [hle]at hm
     cases hm
     have hle:=Nat.le_of_ble_eq_true hle
     have hle':n≤cap:=by
      cases oi with
      |some c=>have:=hc c rfl;simp only [vJ]at hle;omega
      |none=>simp only [vJ]at hle;omega
     obtain⟨k,hk⟩:=wv hn hv
     exact⟨n,VX hk hle' _ w,(fun c Je=>by cases Je;rfl),(fun h=>nomatch h),hle',Nat.le_refl _⟩
   cases hm
 obtain⟨M,r1,VJ,Vk,hM3,hM4⟩:=key
 have z2J:(h≤vJ len m)∧(match vh,vm with
  |some v,some _=>Instr.sliceBound v M .slice3B
  |some v,none=>Instr.sliceBound v M (if isS then .sliceAcap else .sliceAlen)
  |none,none=>pure len
  |none,some _=>stuck "Slice: max without high" :Sem Nat).run P w= .ok h w:=by
  cases h2 with
  |none=>
   cases hh
   cases h3 with
   |none=>
    cases hm
    refine⟨?_,rfl⟩
    cases oi with
    |some c=>have:=hc c rfl;show len≤c;omega
    |none=>exact Nat.le_refl _
   |some hv=>exact absurd rfl (YR _ rfl)
  |some hv=>
   simp only [vP]at hh
   split at hh
   ·rename_i n hn
    cases hle:Nat.ble n (vJ len m)with
    |false=>rw [hle]at hh;cases hh
    |true=>
     rw [hle]at hh
     cases hh
     have hle:=Nat.le_of_ble_eq_true hle
     obtain⟨k,hk⟩:=wv hn hv
     refine⟨hle,?_⟩
     cases h3 with
     |none=>exact VX hk (Nat.le_trans hle hM4) _ w
     |some _=>exact VX hk (Nat.le_trans hle hM4) _ w
   cases hh
 obtain⟨S8,r2⟩:=z2J
 have z2K:l≤h∧(match vl with
  |some v=>Instr.sliceBound v h (if vm.isSome then .slice3C else .sliceB)
  |none=>pure 0:Sem Nat).run P w= .ok l w:=by
  cases h1 with
  |none=>cases nW;exact⟨Nat.zero_le _,rfl⟩
  |some hv=>
   simp only [vP]at nW
   split at nW
   ·rename_i n hn
    cases hle:Nat.ble n h with
    |false=>rw [hle]at nW;cases nW
    |true=>
     rw [hle]at nW
     cases nW
     have hle:=Nat.le_of_ble_eq_true hle
     obtain⟨k,hk⟩:=wv hn hv
     exact⟨hle,VX hk hle _ w⟩
   cases nW
 obtain⟨NF,r3⟩:=z2K
 refine⟨M,?_,VJ,fun e=>⟨Vk e,by subst e;exact S8⟩,NF,Nat.le_trans S8 hM4,hM3⟩
 unfold Instr.sliceBounds
 cases vm<;>cases vh<;>cases vl<;>first
  |(exfalso;simp [stuck]at r2;done)
  |(simp only [Sem.run_pure,Result.ok.injEq,and_true]at r1 r2 r3;subst_vars;simp_all;done)
  |(simp_all;done)
end Go.Px
end
section
namespace Go.Px
open Go Go.RowKit
variable {P:Program} {F:zD} {V:qw} {B:Nat} {w0 w:World} {H:Hp}
theorem lr {len:Nat} {lo hi mx:Option z0} {l h c:Nat} (hb:qQ len none lo hi mx=some (l,h,some c)):c≤len:=by
 have he:Y0 len none mx=some (some c):=by
  unfold qQ at hb
  split at hb
  ·cases hb
  split at hb
  ·cases hb
  rename_i m hm
  split at hb
  ·cases hb
  split at hb
  ·cases hb
  cases hb;exact hm
 unfold Y0 at he
 split at he
 ·cases he
 split at he
 ·rename_i n hn
  cases hle:Nat.ble n (vJ len none)with
  |false=>rw [hle]at he;cases he
  |true=>rw [hle]at he;cases he;exact Nat.le_of_ble_eq_true hle
 cases he
theorem fC {cap:Option Nat} {lo hi mx:Option z0} {l h c:Nat} (hb:qQ 0 cap lo hi mx=some (l,h,some c)) (hc: ∀k,cap=some k→k=0):c=0:=by
 have he:Y0 0 cap mx=some (some c):=by
  unfold qQ at hb
  split at hb
  ·cases hb
  split at hb
  ·cases hb
  rename_i m hm
  split at hb
  ·cases hb
  split at hb
  ·cases hb
  cases hb;exact hm
 unfold Y0 at he
 split at he
 ·exact hc c (Option.some.inj he)
 split at he
 ·rename_i n _
  cases hn:Nat.ble n (vJ 0 cap)with
  |false=>rw [hn]at he;cases he
  |true=>
   rw [hn]at he
   have hn:=Nat.le_of_ble_eq_true hn
   have:vJ 0 cap=0:=by
    unfold vJ
    split
    ·exact hc _ rfl
    rfl
   cases he
   omega
 cases he
theorem Ir (hW:yD B w0 V H w) {i n b base S:Nat} (hi:H.row i=some n) (hb:V.uD i=some (b,base,S)):n≤S:=by
 unfold Hp.row at hi
 split at hi
 ·rename_i rw c m ho
  cases hi
  obtain⟨x,hx,hr⟩:=hW.obj i _ b base S ho hb
  cases hr with
  |cells _ _ _ _ _ _ arr el fz _ _ _ hn=>exact hn
 cases hi
theorem tx (hW:yD B w0 V H w) {t:TypeId} {x:z0} {u:Value} {lo hi mx:Option z0} {vl vh vm:Option Value}
 (hx:zS V x u) (h1:QP V lo vl) (h2:QP V hi vh) (h3:QP V mx vm) {v:z0} (h:vf P t H x lo hi mx=some v):
 ∃v',zS V v v'∧(Instr.sliceAt t u vl vh vm).run P w= .ok v' w:=by
 unfold vf at h
 split at h
 ·rename_i a len cap es
  split at h
  ·rename_i e hu
   split at h
   ·rename_i size l h' m hs hb
    cases hx with
    |YD es=>
     obtain⟨M,r,VJ,Vk,NF,S7,HM⟩:=uu (P:=P) (cap:=0) (fun c hc=>by cases hc;rfl) (Nat.le_refl _) h1 h2 h3 hb true w
     cases m with
     |none=>cases h
     |some c=>
     cases h
     have:M=c:=VJ c rfl
     subst this
     have e0:h'-l=0:=by omega
     have e3:M-l=0:=by omega
     rw [e0,e3]
     refine⟨.slice none 0 0,.YD es,?_⟩
     simp only [Instr.sliceAt,Sem.run_bind,zR hu,Result.andThen_ok,Instr.slice]
     rw [r]
     simp [qA hs,e0,e3]
    |slice i off _ _ _ b base S c U0 hl hc hS=>
     obtain⟨M,r,VJ,Vk,NF,S7,HM⟩:=uu (P:=P) (cap:=c) hc hl h1 h2 h3 hb true w
     have run:(Instr.sliceAt t (.slice (some ⟨b,base+off,none⟩) len c) vl vh vm).run P w= .ok (.slice (if M=l then some ⟨b,base+off,none⟩else some ⟨b,base+off+l*size,none⟩) (h'-l) (M-l)) w:=by
      simp only [Instr.sliceAt,Sem.run_bind,zR hu,Result.andThen_ok,Instr.slice]
      rw [r]
      simp [qA hs,vb]
     have tQ: ∀k,k≤c→k*es≤c*es:=fun k hk=>Nat.mul_le_mul_right es hk
     cases m with
     |some c'=>
      simp only at h
      have:M=c':=VJ c' rfl
      subst this
      cases Yh:Nat.beq es size with
      |false=>rw [Yh]at h;cases h
      |true=>
       rw [Yh]at h
       have Yh:=Nat.eq_of_beq_eq_true Yh
       subst Yh
       simp only [cond_true]at h
       cases gE:Nat.beq M l with
       |true=>
        rw [gE]at h
        have gE:=Nat.eq_of_beq_eq_true gE
        cases h
        refine⟨_,?_,run⟩
        rw [if_pos gE]
        refine .slice i off _ _ es b base S (M-l) U0 (by omega) (fun k hk=>by cases hk;rfl) ?_
        have:M-l=0:=by omega
        rw [this];have:=tQ 0 (Nat.zero_le _);omega
       |false=>
        rw [gE]at h
        cases h
        have wY:M≠l:=fun e=>by rw [e,Nat.beq_refl]at gE;cases gE
        refine⟨_,?_,run⟩
        rw [if_neg wY,Nat.add_assoc]
        refine .slice i (off+l*es) _ _ es b base S (M-l) U0 (by omega) (fun k hk=>by cases hk;rfl) ?_
        have e1:l*es+(M-l)*es=M*es:=by rw [←Nat.add_mul];congr 1;omega
        have:=tQ M HM
        omega
     |none=>
      simp only at h
      obtain⟨Mx,hhl⟩:=Vk rfl
      cases Yh:Nat.beq es size with
      |false=>rw [Yh]at h;cases h
      |true=>
       rw [Yh]at h
       have Yh:=Nat.eq_of_beq_eq_true Yh
       subst Yh
       simp only [cond_true]at h
       cases gE:Nat.beq len l with
       |true=>
        rw [gE]at h
        have gE:=Nat.eq_of_beq_eq_true gE
        cases h
        have e0:h'-l=0:=by omega
        refine⟨_,?_,run⟩
        rw [e0]
        have e1:l*es+(M-l)*es=M*es:=by rw [←Nat.add_mul];congr 1;omega
        have e2:=tQ M HM
        by_cases hM:M=l
        ·rw [if_pos hM]
         refine .uA i _ es b base S (base+off) (M-l) none U0 (fun k hk=>by cases hk) (by omega) ?_
         rw [hM,Nat.sub_self,Nat.zero_mul];omega
        rw [if_neg hM]
        exact .uA i _ es b base S (base+off+l*es) (M-l) none U0 (fun k hk=>by cases hk) (by omega) (by omega)
       |false=>
        rw [gE]at h
        cases h
        have wY:len≠l:=fun e=>by rw [e,Nat.beq_refl]at gE;cases gE
        refine⟨_,?_,run⟩
        rw [if_neg (by omega),Nat.add_assoc]
        refine .slice i (off+l*es) _ _ es b base S (M-l) U0 (by omega) (fun k hk=>by cases hk) ?_
        have e1:l*es+(M-l)*es=M*es:=by rw [←Nat.add_mul];congr 1;omega
        have:=tQ M HM
        omega
    |vU i off _ _ _ b base S c a U0 hbl hl hc ha=>
     obtain⟨M,r,VJ,Vk,NF,S7,HM⟩:=uu (P:=P) (cap:=c) hc hl h1 h2 h3 hb true w
     have run:(Instr.sliceAt t (.slice (some a) len c) vl vh vm).run P w= .ok (.slice (if M=l then some a else some (a.add (l*size))) (h'-l) (M-l)) w:=by
      simp only [Instr.sliceAt,Sem.run_bind,zR hu,Result.andThen_ok,Instr.slice]
      rw [r]
      simp [qA hs]
     have run':(Instr.sliceAt t (.slice (some a) len c) vl vh vm).run P w= .ok (.slice (some (if M=l then a else a.add (l*size))) (h'-l) (M-l)) w:=by
      rw [run];congr 2;split<;>rfl
     cases m with
     |some c'=>
      simp only at h
      have:M=c':=VJ c' rfl
      subst this
      cases Yh:Nat.beq es size with
      |false=>rw [Yh]at h;cases h
      |true=>
       rw [Yh]at h
       have Yh:=Nat.eq_of_beq_eq_true Yh
       subst Yh
       simp only [cond_true]at h
       cases gE:Nat.beq M l with
       |true=>
        rw [gE]at h
        have gE:=Nat.eq_of_beq_eq_true gE
        cases h
        refine⟨_,?_,run'⟩
        exact .vU i off _ _ es b base S (M-l) _ U0 hbl (by omega) (fun k hk=>by cases hk;rfl) (fun h=>by rcases h with h|⟨k,hk,h⟩;exact absurd h (by omega);cases hk;exact absurd h (by omega))
       |false=>
        rw [gE]at h
        cases h
        have wY:M≠l:=fun e=>by rw [e,Nat.beq_refl]at gE;cases gE
        refine⟨_,?_,run'⟩
        refine .vU i (off+l*es) _ _ es b base S (M-l) _ U0 hbl (by omega) (fun k hk=>by cases hk;rfl) (fun h0=> ?_)
        clear h0
        obtain rfl:=ha (by
         cases cap with
         |none=>exact .inl (by have:=lr hb;omega)
         |some k=>exact .inr ⟨k,rfl,by have:=hc k rfl;omega⟩)
        rw [if_neg (by omega),vb,Nat.add_assoc]
     |none=>
      simp only at h
      obtain⟨Mx,hhl⟩:=Vk rfl
      cases Yh:Nat.beq es size with
      |false=>rw [Yh]at h;cases h
      |true=>
       rw [Yh]at h
       have Yh:=Nat.eq_of_beq_eq_true Yh
       subst Yh
       simp only [cond_true]at h
       cases gE:Nat.beq len l with
       |true=>
        rw [gE]at h
        have gE:=Nat.eq_of_beq_eq_true gE
        cases h
        have e0:h'-l=0:=by omega
        refine⟨_,?_,run'⟩
        rw [e0]
        exact .vU i _ 0 none es b base S (M-l) _ U0 hbl (Nat.zero_le _) (fun k hk=>by cases hk) (fun h=>by rcases h with h|⟨k,hk,_⟩;exact absurd h (Nat.lt_irrefl 0);cases hk)
       |false=>
        rw [gE]at h
        cases h
        have wY:len≠l:=fun e=>by rw [e,Nat.beq_refl]at gE;cases gE
        refine⟨_,?_,run'⟩
        refine .vU i (off+l*es) _ none es b base S (M-l) _ U0 hbl (by omega) (fun k hk=>by cases hk) (fun h0=> ?_)
        replace h0:0<h'-l:=h0.resolve_right (fun⟨k,hk,_⟩=>by cases hk)
        obtain rfl:=ha (.inl (by omega))
        rw [if_neg (by omega),vb,Nat.add_assoc]
    |uA i off _ b base S o c _ U0 hc ho hS=>
     obtain⟨M,r,VJ,Vk,NF,S7,HM⟩:=uu (P:=P) (cap:=c) (fun k hk=>by have:=hc k hk;omega) (Nat.zero_le _) h1 h2 h3 hb true w
     have run:(Instr.sliceAt t (.slice (some ⟨b,o,none⟩) 0 c) vl vh vm).run P w= .ok (.slice (if M=l then some ⟨b,o,none⟩else some ⟨b,o+l*size,none⟩) (h'-l) (M-l)) w:=by
      simp only [Instr.sliceAt,Sem.run_bind,zR hu,Result.andThen_ok,Instr.slice]
      rw [r]
      simp [qA hs,vb]
     cases m with
     |some c'=>
      simp only at h
      have:M=c':=VJ c' rfl
      subst this
      have hM0:=fC hb (fun k hk=>(hc k hk).1)
      subst hM0
      have el:l=0:=by omega
      have eh:h'=0:=by omega
      subst el eh
      cases Yh:Nat.beq es size with
      |false=>rw [Yh]at h;cases h
      |true=>
       rw [Yh]at h
       cases h
       refine⟨_,?_,run⟩
       rw [if_pos rfl]
       exact .uA i off es b base S o 0 (some 0) U0 (fun k hk=>by cases hk;exact⟨rfl,rfl⟩) ho (by rw [Nat.zero_mul];have:=Nat.zero_le (c*es);omega)
     |none=>
      simp only at h
      obtain⟨Mx,hhl⟩:=Vk rfl
      have el:l=0:=by omega
      have eh:h'=0:=by omega
      subst el eh
      cases Yh:Nat.beq es size with
      |false=>rw [Yh]at h;cases h
      |true=>
       rw [Yh]at h
       have Yh:=Nat.eq_of_beq_eq_true Yh
       subst Yh
       cases h
       refine⟨_,?_,run⟩
       have e2:(if M=0 then some (⟨b,o,none⟩:Addr)else some ⟨b,o+0*es,none⟩)=some ⟨b,o,none⟩:=by split<;>simp
       rw [e2,Mx]
       exact .uA i _ es b base S o (c-0) none U0 (fun k hk=>by cases hk) ho hS
   cases h
  cases h
 ·rename_i i off
  obtain⟨b,base,S,U0,rfl⟩:=hx.Za
  split at h
  ·rename_i n e hu
   split at h
   ·rename_i size l h' c hs hb
    obtain⟨M,r,VJ,Vk,NF,S7,HM⟩:=uu (P:=P) (cap:=n) (fun c hc=>by cases hc;rfl) (Nat.le_refl _) h1 h2 h3 hb false w
    have:M=c:=VJ c rfl
    subst this
    split at h
    ·rename_i rows cq
     cases hle:Nat.ble (off+n*size) rows with
     |false=>rw [hle]at h;cases h
     |true=>
      rw [hle]at h
      cases h
      have hle:=Nat.le_of_ble_eq_true hle
      have hS:=Ir hW cq U0
      have run:(Instr.sliceAt t (.pointer (some ⟨b,base+off,none⟩)) vl vh vm).run P w= .ok (.slice (some (if M=l then⟨b,base+off,none⟩else⟨b,base+off+l*size,none⟩)) (h'-l) (M-l)) w:=by
       simp only [Instr.sliceAt,Sem.run_bind,zR hu,Result.andThen_ok,Instr.sureAddr,Sem.run_pure]
       rw [r]
       simp [qA hs,vb]
      have hMn:M*size≤n*size:=Nat.mul_le_mul_right size HM
      refine⟨_,?_,run⟩
      cases gE:Nat.beq M l with
      |true=>
       have gE:=Nat.eq_of_beq_eq_true gE
       rw [if_pos gE]
       refine .slice i off _ _ size b base S (M-l) U0 (by omega) (fun k hk=>by cases hk;rfl) ?_
       have:M-l=0:=by omega
       rw [this];omega
      |false=>
       have wY:M≠l:=fun e=>by rw [e,Nat.beq_refl]at gE;cases gE
       rw [if_neg wY,Nat.add_assoc]
       refine .slice i (off+l*size) _ _ size b base S (M-l) U0 (by omega) (fun k hk=>by cases hk;rfl) ?_
       have e1:l*size+(M-l)*size=M*size:=by rw [←Nat.add_mul];congr 1;omega
       omega
    cases h
   cases h
  cases h
 ·rename_i s
  obtain⟨q,rfl,hq⟩:=hx.ux
  split at h
  ·rename_i hu
   split at h
   ·cases h
   cases hb8:zk s with
   |false=>rw [hb8]at h;cases h
   |true=>
    rw [hb8]at h
    simp only [cond_true]at h
    split at h
    ·rename_i l h' c hb
     cases h
     cases h3
     have Y2:=V4 hb8 hq
     obtain⟨M,r,VJ,Vk,NF,S7,HM⟩:=uu (P:=P) (cap:=s.length) (fun c hc=>by cases hc;rfl) (Nat.le_refl _) h1 h2 .none hb false w
     refine⟨.string (q.extract l h'),.str _ _ ?_,?_⟩
     ·rw [Zo _ _ ((qW _).1 hb8)]at hq
      rw [Zo _ _ (fun n hn=>(qW _).1 hb8 n (List.mem_of_mem_drop (List.mem_of_mem_take hn)))]
      have:(q.extract l h').data.toList=(q.data.toList.drop l).take (h'-l):=by
       rw [ByteArray.data_extract,Array.toList_extract,List.extract_eq_take_drop]
      rw [this,hq]
      simp [List.map_take,List.map_drop]
     simp only [Instr.sliceAt,Sem.run_bind,zR hu,Result.andThen_ok,Instr.slice,Option.isSome,Bool.false_eq_true,if_false,Y2]
     rw [r]
     rfl
    cases h
  cases h
 cases h
end Go.Px
end
section
namespace Go.Px
open Go Go.RowKit
variable {P:Program} {F:zD} {V:qw} {B:Nat} {w0 w:World} {H:Hp}
theorem run_checkKey {kt:TypeId} {k:z0} {u:Value} (h:vM P kt k=true) (hk:zS V k u) (b:Bool) (n:Nat) (w:World):(Instr.checkKey b (n+2) kt u).run P w= .ok () w:=by
 unfold vM at h
 split at h
 ·obtain rfl:=hk.uw
  split at h
  ·rename_i e;simp [Instr.checkKey,zR e]
  cases h
 ·obtain rfl:=hk.Wt
  split at h
  ·rename_i e;simp [Instr.checkKey,zR e]
  cases h
 ·obtain⟨s,rfl,_⟩:=hk.ux
  split at h
  ·rename_i e;simp [Instr.checkKey,zR e]
  cases h
 ·rename_i cs
  obtain⟨x,rfl,hl,hc⟩:=hk.Qh
  split at h
  ·rename_i fs e
   rw [Instr.checkKey]
   simp only [Sem.run_bind,zR e,Result.andThen_ok]
   rw [←Array.forIn_toList]
   have key: ∀(l:List Field),(l.all fun f=>match Y9 P f.type cs f.offset with
    |some (.int _ _)=>match yj P f.type with
     |some (.int _)=>true
     |_=>false
    |some (.bool _)=>match yj P f.type with
     |some .bool=>true
     |_=>false
    |_=>false)=true→(forIn l PUnit.unit (fun f _=>do
     if f.name≠ "_" then
      let x←part f.type x f.offset
      Instr.checkKey b (n+1) f.type x
      pure (.yield PUnit.unit)
     else pure (.yield PUnit.unit):Field→PUnit→Sem (ForInStep PUnit))).run P w= .ok PUnit.unit w:=by
    intro l
    induction l with
    |nil=>intro _;simp
    |cons f l ih=>
     intro hh
     rw [List.all_cons,Bool.and_eq_true]at hh
     rw [List.forIn_cons]
     simp only [Sem.run_bind,Sem.run_ite]
     split
     ·have h1:=hh.1
      split at h1
      ·rename_i k' s hp
       obtain⟨v',r,e'⟩:=uk hp hl hc w
       obtain rfl:=r.uw
       split at h1
       ·rename_i e2
        simp only [Sem.run_bind,e',Result.andThen_ok,Instr.checkKey,zR e2,Sem.run_pure]
        exact ih hh.2
       cases h1
      ·rename_i b' hp
       obtain⟨v',r,e'⟩:=uk hp hl hc w
       obtain rfl:=r.Wt
       split at h1
       ·rename_i e2
        simp only [Sem.run_bind,e',Result.andThen_ok,Instr.checkKey,zR e2,Sem.run_pure]
        exact ih hh.2
       cases h1
      cases h1
     simp only [Sem.run_pure,Result.andThen_ok]
     exact ih hh.2
   refine(congrArg (fun r=>Result.andThen r _) (key fs.toList h)).trans ?_
   rfl
  cases h
 cases h
def la (V:qw) (es:List Entry) (ms:List MapEntry):Prop:=es.length=ms.length∧ ∀(i:Nat) e m,es[i]? =some e→ms[i]? =some m→ME V e m
theorem la.tail {e:Entry} {es:List Entry} {m:MapEntry} {ms:List MapEntry} (h:la V (e::es) (m::ms)):ME V e m∧la V es ms:=
 ⟨h.2 0 e m (by simp) (by simp),by simpa using h.1,fun i a b ha hb=>h.2 (i+1) a b (by simpa using ha) (by simpa using hb)⟩
theorem wm {kt:TypeId} {k:z0} {u:Value} (h:vM P kt k=true) (hk:zS V k u) (b:Bool) (w:World):(Instr.checkKey b 10000 kt u).run P w= .ok () w:=
 run_checkKey h hk b 9998 w
theorem bl {d:TypeDesc} {kt:TypeId} {u v:Value} {b c:Bool} (hd:P.underlying kt=some d) (hs:Instr.sameNow d u v=some b) (hr:(Op.equalIn 10000 kt u v).run P w= .ok c w):b=c:=by
 unfold Instr.sameNow at hs
 split at hs
 ·rename_i k0 k a k' b'
  split at hs
  ·rename_i e
   subst e
   cases hs
   have:(Op.equalIn (9999+1) kt (.int k a) (.int k b')).run P w=_:=run_equalIn_int w 9999 kt k k0 a b' hd
   have:=this.symm.trans hr
   cases this
   rfl
  cases hs
 ·rename_i a b'
  cases hs
  have:(Op.equalIn (9999+1) kt (.string a) (.string b')).run P w=_:=run_equalIn_string w 9999 kt a b' hd
  have:=this.symm.trans hr
  cases this
  exact beq_toListBytes a b'
 ·rename_i a b'
  cases hs
  have:(Op.equalIn (9999+1) kt (.bool a) (.bool b')).run P w=_:=run_equalIn_bool' w 9999 kt a b' hd
  have:=this.symm.trans hr
  cases this
  rfl
 cases hs
theorem cI (hF:dJ F V.ρ) (hW:yD B w0 V H w) {kt:TypeId} {d:TypeDesc} (hd:P.underlying kt=some d) {k:z0} {u:Value} (hk:zS V k u):
 ∀(es:List Entry) (ms:List MapEntry) (i:Nat) (r:Option (Nat×Entry)),la V es ms→jA (VA P F H 3 kt) k es i=some r→
  ∃q,(Instr.findAsking kt u ms i).run P w= .ok q w∧(∀q',Instr.findNow d u ms i=some q'→q'=q)∧
   ((r=none∧q=none)∨ ∃j e m,r=some (j,e)∧q=some (j,m.val)∧i≤j∧es[j-i]? =some e∧ms[j-i]? =some m):=by
 intro es
 induction es with
 |nil=>
  intro ms i r hm h
  cases h
  have:ms= []:=by have:=hm.1;cases ms<;>simp_all
  subst this
  exact⟨none,by simp [Instr.findAsking],fun q' h=>by simp [Instr.findNow]at h;exact h.symm,.inl ⟨rfl,rfl⟩⟩
 |cons e es ih=>
  intro ms i r hm h
  cases ms with
  |nil=>have:=hm.1;simp at this
  |cons m ms=>
   obtain⟨he,ht⟩:=hm.tail
   simp only [jA]at h
   cases hc:VA P F H 3 kt k e.key with
   |none=>rw [hc]at h;cases h
   |some c=>
    rw [hc]at h
    have hr:=Gb (P:=P) (B:=B) (w0:=w0) (H:=H) hF 3 kt k e.key c hc u m.key w hW hk he.key 10000 (by decide)
    have hr':(Op.equal kt u m.key).run P w= .ok c w:=hr
    cases c with
    |true=>
     cases h
     refine⟨some (i,m.val),by simp [Instr.findAsking,hr'],fun q' hq=> ?_,.inr ⟨i,e,m,rfl,rfl,Nat.le_refl _,by simp,by simp⟩⟩
     simp only [Instr.findNow]at hq
     split at hq
     ·cases hq;rfl
     ·rename_i e1
      have:=bl hd e1 hr
      cases this
     cases hq
    |false=>
     obtain⟨q,h1,h2,h3⟩:=ih ms (i+1) r ht h
     refine⟨q,by simp [Instr.findAsking,hr',h1],fun q' hq=> ?_,?_⟩
     ·simp only [Instr.findNow]at hq
      split at hq
      ·rename_i e1
       have:=bl hd e1 hr
       cases this
      ·exact h2 q' hq
      cases hq
     rcases h3 with h3|⟨j,e',m',a1,a2,a3,a4,a5⟩
     ·exact .inl h3
     refine .inr ⟨j,e',m',a1,a2,by omega,?_,?_⟩
     ·rw [show j-i=(j-(i+1))+1 by omega];simpa using a4
     rw [show j-i=(j-(i+1))+1 by omega];simpa using a5
theorem vR (hF:dJ F V.ρ) (hW:yD B w0 V H w) {kt:TypeId} {k:z0} {u:Value} (hk:zS V k u) (fp:vM P kt k=true) {es:List Entry} {ms:List MapEntry} {r:Option (Nat×Entry)}
 (hm:la V es ms) (h:jA (VA P F H 3 kt) k es 0=some r):
 ∃q,(Instr.findKey kt u ms).run P w= .ok q w∧((r=none∧q=none)∨ ∃j e m,r=some (j,e)∧q=some (j,m.val)∧es[j]? =some e∧ms[j]? =some m):=by
 have hd: ∃d,P.underlying kt=some d:=by
  unfold vM yj at fp
  cases hu:P.underlying kt with
  |none=>rw [hu]at fp;split at fp<;>cases fp
  |some d=>exact⟨d,rfl⟩
 obtain⟨d,hd⟩:=hd
 obtain⟨q,h1,h2,h3⟩:=cI hF hW hd hk es ms 0 r hm h
 refine⟨q,?_,?_⟩
 ·simp only [Instr.findKey,Sem.run_bind,run_underlying hd,Result.andThen_ok]
  cases hn:Instr.findNow d u ms 0 with
  |none=>exact h1
  |some q'=>rw [h2 q' hn];rfl
 rcases h3 with h3|⟨j,e,m,a1,a2,_,a4,a5⟩
 ·exact .inl h3
 exact .inr ⟨j,e,m,a1,a2,by simpa using a4,by simpa using a5⟩
theorem Zl (hW:yD B w0 V H w) {i b base S clock:Nat} {es:List Entry} (hb:V.uD i=some (b,base,S)) (h:H.gy i=some (es,clock)):
 H.t.get i=some (.map es clock)∧ ∃ms,w.heap[b]? =some (.map ms clock)∧la V es ms.toList∧B≤b:=by
 unfold Hp.gy at h
 split at h
 ·rename_i Xx k ho
  cases h
  obtain⟨x,hx,hr⟩:=hW.obj i _ b base S ho hb
  cases hr with
  |map _ _ _ _ _ ms hB hl he=>exact⟨ho,ms,hx,⟨by simpa using hl,fun i e m h1 h2=>he i e m h1 (by simpa using h2)⟩,hB⟩
 cases h
theorem zS.VK {i:Nat} {v:Value} (h:zS V (.map (some i)) v): ∃b base S,V.uD i=some (b,base,S)∧v= .map (some b):=by
 cases h with
 |map _ b base S h=>exact⟨b,base,S,h,rfl⟩
theorem vS {b:Nat} {ms:Array MapEntry} {clock:Nat} (h:w.heap[b]? =some (.map ms clock)):(getObj b).run P w= .ok (.map ms clock) w:=by
 simp [getObj,Sem.run,h]
theorem sn {t kt et:TypeId} (hu:yj P t=some (.map kt et)) {u z zv:Value} {ms:Array MapEntry} (NN:(u= .map none∧ms= #[])∨ ∃b clock,u= .map (some b)∧w.heap[b]? =some (.map ms clock))
 (hc: ∀b,(Instr.checkKey b 10000 kt z).run P w= .ok () w) {q:Option (Nat×Value)} (hq:(Instr.findKey kt z ms.toList).run P w= .ok q w) (hz:(zeroValue et).run P w= .ok zv w) (ok:Bool):
 (Instr.lookup t u z ok).run P w= .ok (match q with
  |some (_,v)=>if ok then .tuple #[v,.bool true]else v
  |none=>if ok then .tuple #[zv,.bool false]else zv) w:=by
 rcases NN with⟨rfl,rfl⟩|⟨b,clock,rfl,hb⟩
 ·cases q with
  |none=>simp [Instr.lookup,zR hu,hc,hq,hz]
  |some p=>simp [Instr.lookup,zR hu,hc,hq]
 cases q with
 |none=>simp [Instr.lookup,zR hu,hc,hq,hz,vS hb]
 |some p=>simp [Instr.lookup,zR hu,hc,hq,vS hb]
theorem xZ (hF:dJ F V.ρ) (hW:yD B w0 V H w) {t:TypeId} {x k:OV} {ok:Bool} {r:zN} {u z:Value} (hx: ∀v,x=some v→zS V v u) (hk: ∀v,k=some v→zS V v z)
 (h:Wh P F t x k ok H=some r): ∃v v',r= .val v H∧zS V v v'∧(Instr.lookup t u z ok).run P w= .ok v' w:=by
 unfold Wh at h
 split at h
 ·rename_i x k
  replace hx:=hx _ rfl
  replace hk:=hk _ rfl
  obtain⟨v,hv,rfl⟩:=qP h
  clear h
  unfold tO at hv
  split at hv
  ·rename_i kt et hu
   cases hf:vM P kt k with
   |false=>rw [hf]at hv;cases hv
   |true=>
    rw [hf]at hv
    simp only [cond_true]at hv
    split at hv
    ·cases hv
    rename_i zv hz
    obtain⟨zv',rz,G4⟩:=jI (P:=P) hz
    split at hv
    ·cases hv
    rename_i es he
    have fin: ∀(ms:Array MapEntry),la V es ms.toList→((u= .map none∧ms= #[])∨ ∃b clock,u= .map (some b)∧w.heap[b]? =some (.map ms clock))→ ∃v',zS V v v'∧(Instr.lookup t u z ok).run P w= .ok v' w:=by
     intro ms hm NN
     cases cg:jA (VA P F H 3 kt) k es 0 with
     |none=>rw [cg]at hv;cases hv
     |some q=>
      obtain⟨q',h1,h2⟩:=vR hF hW hk hf hm cg
      rw [cg]at hv
      have run:=sn hu NN (fun b=>wm hf hk b w) h1 (rz w) ok
      refine⟨_,?_,run⟩
      rcases h2 with⟨rfl,rfl⟩|⟨j,e,m,rfl,rfl,h3,h4⟩
      ·cases ok
       ·cases hv;exact G4 V
       cases hv
       exact zS.nG (.cons (G4 V) (.cons (.bool false) .nil))
      have hE:=hm.2 j e m h3 h4
      cases ok
      ·cases hv;exact hE.val
      cases hv
      exact zS.nG (.cons hE.val (.cons (.bool true) .nil))
    have res: ∃v',zS V v v'∧(Instr.lookup t u z ok).run P w= .ok v' w:=by
     split at he
     ·cases he
      cases hx
      exact fin #[] ⟨rfl,fun i e m h=>by simp at h⟩ (.inl ⟨rfl,rfl⟩)
     ·rename_i r
      split at he
      ·rename_i Xx clock HZ
       cases he
       obtain⟨b,base,S,hb,rfl⟩:=hx.VK
       obtain⟨_,ms,dt,U3,_⟩:=Zl hW hb HZ
       exact fin ms U3 (.inr ⟨b,clock,rfl,dt⟩)
      cases he
     cases he
    obtain⟨v',h1,h2⟩:=res
    exact⟨v,v',rfl,h1,h2⟩
  cases hv
 cases h
end Go.Px
end
