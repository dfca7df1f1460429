/- Part of the proof: PBase, PExec, PRel, PWorld, PInt, PQuiet, PQuiet2, PQuiet3, PQuiet4, PQuiet5, PMaps. Names and blanks are cut short to keep within the size of a claim. -/
import Derived.Below
import Derived.Calls
import Derived.Laws.BitsLemmas
import Derived.Laws.Cells
import Derived.Laws.CopyRow
import Derived.Laws.Entries
import Derived.Laws.StructEq
import Derived.LoopTactic
import GoSem.Machine.Return
set_option linter.unusedVariables false
set_option linter.unusedSimpArgs false
namespace Go.Px
open Go
noncomputable section
inductive Tr (α:Type) where
 |nil
 |node (l:Tr α) (v:Option α) (r:Tr α)
def Tr.get {α:Type} (t:Tr α):Nat→Option α:=
 Tr.rec (motive:=fun _=>Nat→Option α) (fun _=>none) (fun _ v _ gl gr n=>Nat.rec (motive:=fun _=>Option α) v (fun n _=>Bool.rec (motive:=fun _=>Option α) (gr (Nat.div n 2)) (gl (Nat.div n 2)) (Nat.beq (Nat.mod n 2) 0)) n) t
def Tr.single {α:Type} (f:Nat):Nat→α→Tr α:=
 Nat.rec (motive:=fun _=>Nat→α→Tr α) (fun _ _=> .nil) (fun _ g n a=>Nat.rec (motive:=fun _=>Tr α) (.node .nil (some a) .nil)
  (fun n _=>Bool.rec (motive:=fun _=>Tr α) (.node .nil none (g (Nat.div n 2) a)) (.node (g (Nat.div n 2) a) none .nil) (Nat.beq (Nat.mod n 2) 0)) n) f
def Tr.set {α:Type} (t:Tr α):Nat→α→Tr α:=
 Tr.rec (motive:=fun _=>Nat→α→Tr α) (fun n a=>Tr.single (n+1) n a) (fun l v r gl gr n a=>Nat.rec (motive:=fun _=>Tr α) (Tr.node l (some a) r) (fun n _=>Bool.rec (motive:=fun _=>Tr α) (Tr.node l v (gr (Nat.div n 2) a)) (Tr.node (gl (Nat.div n 2) a) v r) (Nat.beq (Nat.mod n 2) 0)) n) t
def Tr.del {α:Type} (t:Tr α):Nat→Tr α:=
 Tr.rec (motive:=fun _=>Nat→Tr α) (fun _=> .nil) (fun l v r gl gr n=>Nat.rec (motive:=fun _=>Tr α) (Tr.node l none r) (fun n _=>Bool.rec (motive:=fun _=>Tr α) (Tr.node l v (gr (Nat.div n 2))) (Tr.node (gl (Nat.div n 2)) v r) (Nat.beq (Nat.mod n 2) 0)) n) t
def Tr.ofList {α:Type} (l:List α):Nat→Tr α→Tr α:=
 List.rec (motive:=fun _=>Nat→Tr α→Tr α) (fun _ t=>t) (fun x _ ih i t=>ih (Nat.succ i) (t.set i x)) l
section
variable {α:Type}
theorem Tr.get_nil (n:Nat):(Tr.nil:Tr α).get n=none:=rfl
theorem Tr.get_zero (l:Tr α) (v:Option α) (r:Tr α):(Tr.node l v r).get 0=v:=rfl
theorem Tr.get_succ (l:Tr α) (v:Option α) (r:Tr α) (n:Nat):(Tr.node l v r).get (n+1)=if n%2=0 then l.get (n/2)else r.get (n/2):=by
 show Bool.rec (motive:=fun _=>Option α) (r.get (Nat.div n 2)) (l.get (Nat.div n 2)) (Nat.beq (Nat.mod n 2) 0)=_
 by_cases h:n%2=0
 ·have h':Nat.beq (Nat.mod n 2) 0=true:=by rw [Nat.beq_eq];exact h
  rw [h',if_pos h];rfl
 have h':Nat.beq (Nat.mod n 2) 0=false:=by
  cases hb:Nat.beq (Nat.mod n 2) 0 with
  |false=>rfl
  |true=>exact absurd (Nat.eq_of_beq_eq_true hb) h
 rw [h',if_neg h];rfl
theorem Tr.set_zero (l:Tr α) (v:Option α) (r:Tr α) (a:α):(Tr.node l v r).set 0 a= .node l (some a) r:=rfl
theorem Tr.set_succ (l:Tr α) (v:Option α) (r:Tr α) (n:Nat) (a:α):(Tr.node l v r).set (n+1) a=if n%2=0 then .node (l.set (n/2) a) v r else .node l v (r.set (n/2) a):=by
 show Bool.rec (motive:=fun _=>Tr α) (Tr.node l v (r.set (Nat.div n 2) a)) (Tr.node (l.set (Nat.div n 2) a) v r) (Nat.beq (Nat.mod n 2) 0)=_
 by_cases h:n%2=0
 ·have h':Nat.beq (Nat.mod n 2) 0=true:=by rw [Nat.beq_eq];exact h
  rw [h',if_pos h];rfl
 have h':Nat.beq (Nat.mod n 2) 0=false:=by
  cases hb:Nat.beq (Nat.mod n 2) 0 with
  |false=>rfl
  |true=>exact absurd (Nat.eq_of_beq_eq_true hb) h
 rw [h',if_neg h];rfl
theorem Tr.del_zero (l:Tr α) (v:Option α) (r:Tr α):(Tr.node l v r).del 0= .node l none r:=rfl
theorem Tr.del_succ (l:Tr α) (v:Option α) (r:Tr α) (n:Nat):(Tr.node l v r).del (n+1)=if n%2=0 then .node (l.del (n/2)) v r else .node l v (r.del (n/2)):=by
 show Bool.rec (motive:=fun _=>Tr α) (Tr.node l v (r.del (Nat.div n 2))) (Tr.node (l.del (Nat.div n 2)) v r) (Nat.beq (Nat.mod n 2) 0)=_
 by_cases h:n%2=0
 ·have h':Nat.beq (Nat.mod n 2) 0=true:=by rw [Nat.beq_eq];exact h
  rw [h',if_pos h];rfl
 have h':Nat.beq (Nat.mod n 2) 0=false:=by
  cases hb:Nat.beq (Nat.mod n 2) 0 with
  |false=>rfl
  |true=>exact absurd (Nat.eq_of_beq_eq_true hb) h
 rw [h',if_neg h];rfl
theorem Tr.single_zero (f:Nat) (a:α):Tr.single (f+1) 0 a= .node .nil (some a) .nil:=rfl
theorem Tr.single_succ (f n:Nat) (a:α):Tr.single (f+1) (n+1) a=if n%2=0 then .node (Tr.single f (n/2) a) none .nil else .node .nil none (Tr.single f (n/2) a):=by
 show Bool.rec (motive:=fun _=>Tr α) (.node .nil none (Tr.single f (Nat.div n 2) a)) (.node (Tr.single f (Nat.div n 2) a) none .nil) (Nat.beq (Nat.mod n 2) 0)=_
 by_cases h:n%2=0
 ·have h':Nat.beq (Nat.mod n 2) 0=true:=by rw [Nat.beq_eq];exact h
  rw [h',if_pos h];rfl
 have h':Nat.beq (Nat.mod n 2) 0=false:=by
  cases hb:Nat.beq (Nat.mod n 2) 0 with
  |false=>rfl
  |true=>exact absurd (Nat.eq_of_beq_eq_true hb) h
 rw [h',if_neg h];rfl
theorem Tr.get_single: ∀(f n:Nat) (a:α) (m:Nat),n<f→(Tr.single f n a).get m=if m=n then some a else none:=by
 intro f
 induction f with
 |zero=>intro n a m h;omega
 |succ f ih=>
  intro n a m h
  cases n with
  |zero=>
   rw [Tr.single_zero]
   cases m with
   |zero=>rfl
   |succ m=>rw [Tr.get_succ];simp only [Tr.get_nil];split<;>simp
  |succ n=>
   rw [Tr.single_succ]
   by_cases hn:n%2=0
   ·rw [if_pos hn]
    cases m with
    |zero=>simp [Tr.get_zero]
    |succ m=>
     rw [Tr.get_succ,ih _ _ _ (by omega),Tr.get_nil]
     by_cases hm:m%2=0
     ·rw [if_pos hm];by_cases e:m=n
      ·subst e;simp
      rw [if_neg (by omega),if_neg (by omega)]
     rw [if_neg hm,if_neg (by omega)]
   rw [if_neg hn]
   cases m with
   |zero=>simp [Tr.get_zero]
   |succ m=>
    rw [Tr.get_succ,ih _ _ _ (by omega),Tr.get_nil]
    by_cases hm:m%2=0
    ·rw [if_pos hm,if_neg (by omega)]
    rw [if_neg hm];by_cases e:m=n
    ·subst e;simp
    rw [if_neg (by omega),if_neg (by omega)]
theorem Tr.get_set (t:Tr α): ∀(n:Nat) (a:α) (m:Nat),(t.set n a).get m=if m=n then some a else t.get m:=by
 induction t with
 |nil=>intro n a m;show(Tr.single (n+1) n a).get m=_;rw [Tr.get_single _ _ _ _ (by omega),Tr.get_nil]
 |node l v r ihl ihr=>
  intro n a m
  cases n with
  |zero=>
   rw [Tr.set_zero]
   cases m with
   |zero=>rfl
   |succ m=>rw [Tr.get_succ,Tr.get_succ,if_neg (show¬m+1=0 by omega)]
  |succ n=>
   rw [Tr.set_succ]
   by_cases hn:n%2=0
   ·rw [if_pos hn]
    cases m with
    |zero=>simp [Tr.get_zero]
    |succ m=>
     rw [Tr.get_succ,Tr.get_succ,ihl]
     by_cases hm:m%2=0
     ·rw [if_pos hm,if_pos hm];by_cases e:m=n
      ·subst e;simp
      rw [if_neg (by omega),if_neg (by omega)]
     rw [if_neg hm,if_neg hm,if_neg (by omega)]
   rw [if_neg hn]
   cases m with
   |zero=>simp [Tr.get_zero]
   |succ m=>
    rw [Tr.get_succ,Tr.get_succ,ihr]
    by_cases hm:m%2=0
    ·rw [if_pos hm,if_pos hm,if_neg (by omega)]
    rw [if_neg hm,if_neg hm];by_cases e:m=n
    ·subst e;simp
    rw [if_neg (by omega),if_neg (by omega)]
theorem Tr.get_del (t:Tr α): ∀(n m:Nat),(t.del n).get m=if m=n then none else t.get m:=by
 induction t with
 |nil=>intro n m;show(Tr.nil:Tr α).get m=_;rw [Tr.get_nil];simp
 |node l v r ihl ihr=>
  intro n m
  cases n with
  |zero=>
   rw [Tr.del_zero]
   cases m with
   |zero=>rfl
   |succ m=>rw [Tr.get_succ,Tr.get_succ,if_neg (show¬m+1=0 by omega)]
  |succ n=>
   rw [Tr.del_succ]
   by_cases hn:n%2=0
   ·rw [if_pos hn]
    cases m with
    |zero=>simp [Tr.get_zero]
    |succ m=>
     rw [Tr.get_succ,Tr.get_succ,ihl]
     by_cases hm:m%2=0
     ·rw [if_pos hm,if_pos hm];by_cases e:m=n
      ·subst e;simp
      rw [if_neg (by omega),if_neg (by omega)]
     rw [if_neg hm,if_neg hm,if_neg (by omega)]
   rw [if_neg hn]
   cases m with
   |zero=>simp [Tr.get_zero]
   |succ m=>
    rw [Tr.get_succ,Tr.get_succ,ihr]
    by_cases hm:m%2=0
    ·rw [if_pos hm,if_pos hm,if_neg (by omega)]
    rw [if_neg hm,if_neg hm];by_cases e:m=n
    ·subst e;simp
    rw [if_neg (by omega),if_neg (by omega)]
theorem Tr.get_ofList: ∀(l:List α) (i:Nat) (t:Tr α) (m:Nat),(Tr.ofList l i t).get m=if i≤m∧m<i+l.length then l[m-i]? else t.get m:=by
 intro l
 induction l with
 |nil=>intro i t m;show t.get m=_;rw [if_neg (by simp)]
 |cons x xs ih=>
  intro i t m
  show(Tr.ofList xs (i+1) (t.set i x)).get m=_
  rw [ih,Tr.get_set]
  simp only [List.length_cons]
  by_cases h1:i+1≤m∧m<i+1+xs.length
  ·rw [if_pos h1,if_pos (by omega)]
   have:m-i=(m-(i+1))+1:=by omega
   rw [this];simp
  rw [if_neg h1]
  by_cases h2:m=i
  ·subst h2;simp
  rw [if_neg h2,if_neg (by omega)]
end
def G2:Int→Int→Bool
 | .ofNat m,.ofNat n=>Nat.blt m n
 | .ofNat _,.negSucc _=>false
 | .negSucc _,.ofNat _=>true
 | .negSucc m,.negSucc n=>Nat.blt n m
def gD:Int→Int→Bool
 | .ofNat m,.ofNat n=>Nat.beq m n
 | .negSucc m,.negSucc n=>Nat.beq m n
 |_,_=>false
inductive zU where
 |lit (z:Int)
 |lin (a:Int) (i:Nat) (c:Int)
abbrev z9:=List (Int×Int)
def zU.beq:zU→zU→Bool
 | .lit x,.lit y=>gD x y
 | .lin a i c,.lin b j d=>gD a b && Nat.beq i j && gD c d
 |_,_=>false
def zU.span (F:z9):zU→Option (Int×Int)
 | .lit z=>some (z,z)
 | .lin a i c=>match F[i]? with
  |none=>none
  |some (lo,hi)=>bif G2 a 0 then some (a*hi+c,a*lo+c)else some (a*lo+c,a*hi+c)
def zU.mk (a:Int) (i:Nat) (c:Int):zU:=bif gD a 0 then .lit c else .lin a i c
def zU.add:zU→zU→Option zU
 | .lit x,.lit y=>some (.lit (x+y))
 | .lit x,.lin a i c=>some (.lin a i (x+c))
 | .lin a i c,.lit x=>some (.lin a i (c+x))
 | .lin a i c,.lin b j d=>bif Nat.beq i j then some (zU.mk (a+b) i (c+d))else none
def zU.sub:zU→zU→Option zU
 | .lit x,.lit y=>some (.lit (x-y))
 | .lit x,.lin a i c=>some (.lin (-a) i (x-c))
 | .lin a i c,.lit x=>some (.lin a i (c-x))
 | .lin a i c,.lin b j d=>bif Nat.beq i j then some (zU.mk (a-b) i (c-d))else none
def zU.mul:zU→zU→Option zU
 | .lit x,.lit y=>some (.lit (x*y))
 | .lit x,.lin a i c=>some (zU.mk (x*a) i (x*c))
 | .lin a i c,.lit x=>some (zU.mk (a*x) i (c*x))
 |_,_=>none
def zU.lt (F:z9):zU→zU→Option Bool
 | .lit x,.lit y=>some (G2 x y)
 |x,y=>match x.sub y with
  |none=>none
  |some d=>match d.span F with
   |none=>none
   |some (lo,hi)=>bif G2 hi 0 then some true else bif G2 lo 0 then none else some false
def zU.eq (F:z9):zU→zU→Option Bool
 | .lit x,.lit y=>some (gD x y)
 |x,y=>match x.sub y with
  |none=>none
  |some d=>match d with
   | .lit z=>some (gD z 0)
   |d=>match d.span F with
    |none=>none
    |some (lo,hi)=>bif G2 hi 0 then some false else bif G2 0 lo then some false else none
def Qs:IntKind→Int
 | .i8=> -128| .i16=> -32768| .i32=> -2147483648| .i64=> -9223372036854775808|_=>0
def gR:IntKind→Int
 | .i8=>127| .i16=>32767| .i32=>2147483647| .i64=>9223372036854775807
 | .u8=>255| .u16=>65535| .u32=>4294967295| .u64=>18446744073709551615
def QN (k:IntKind) (z:Int):Bool:=bif G2 z (Qs k)then false else bif G2 (gR k) z then false else true
def zU.wrap (F:z9) (k:IntKind):zU→Option zU
 | .lit z=>some (.lit (bif QN k z then z else k.wrap z))
 |x=>match x.span F with
  |none=>none
  |some (lo,hi)=>bif QN k lo && QN k hi then some x else none
inductive AVal where
 |bool (b:Bool)
 |int (k:IntKind) (n:zU)
 |str (s:List Nat)
 |ptr (a:Option (Nat×Nat))
 |slice (a:Option (Nat×Nat)) (len:Nat) (cap:Option Nat) (es:Nat)
 |map (r:Option Nat)
 |chan (r:Option Nat)
 |func (f:FuncId) (first captured:List AVal)
 |nilFunc
 |iface (t:TypeId) (v:AVal)
 |nilIface
 |agg (cs:List AVal)
 |tuple (vs:List AVal)
def cU:Option (Nat×Nat)→Option (Nat×Nat)→Bool
 |none,none=>true
 |some (a,b),some (c,d)=>Nat.beq a c && Nat.beq b d
 |_,_=>false
def dY:Option Nat→Option Nat→Bool
 |none,none=>true
 |some a,some b=>Nat.beq a b
 |_,_=>false
def qv:List Nat→List Nat→Bool
 | [],[]=>true
 |a::x,b::y=>Nat.beq a b && qv x y
 |_,_=>false
def ZD:IntKind→Nat
 | .i8=>0| .i16=>1| .i32=>2| .i64=>3| .u8=>4| .u16=>5| .u32=>6| .u64=>7
def vf (a b:IntKind):Bool:=Nat.beq (ZD a) (ZD b)
mutual
def AVal.beq:AVal→AVal→Bool
 | .bool a,.bool b=>a==b
 | .int k a,.int j b=>vf k j && zU.beq a b
 | .str a,.str b=>qv a b
 | .ptr a,.ptr b=>cU a b
 | .slice a l c e,.slice b m d f=>cU a b && Nat.beq l m && dY c d && Nat.beq e f
 | .map a,.map b=>dY a b
 | .chan a,.chan b=>dY a b
 | .func f a b,.func g c d=>Nat.beq f g && AVal.beqL a c && AVal.beqL b d
 | .nilFunc,.nilFunc=>true
 | .iface t v,.iface u w=>Nat.beq t u && AVal.beq v w
 | .nilIface,.nilIface=>true
 | .agg a,.agg b=>AVal.beqL a b
 | .tuple a,.tuple b=>AVal.beqL a b
 |_,_=>false
def AVal.beqL:List AVal→List AVal→Bool
 | [],[]=>true
 |a::x,b::y=>AVal.beq a b && AVal.beqL x y
 |_,_=>false
end
def AVal.cells:AVal→List AVal
 | .agg cs=>cs
 |v=> [v]
def AVal.isCell:AVal→Bool
 | .agg _=>false
 | .tuple _=>false
 |_=>true
def yL (l:List AVal):Bool:=List.rec (motive:=fun _=>Bool) true (fun v _ ih=>v.isCell && ih) l
theorem wL (l:List AVal):yL l=true↔ ∀u,u ∈ l→u.isCell=true:=by
 induction l with
 |nil=>exact⟨fun _ u h=>by simp at h,fun _=>rfl⟩
 |cons v l ih=>
  show(v.isCell && yL l)=true↔_
  rw [Bool.and_eq_true,ih]
  refine⟨fun h u hu=> ?_,fun h=>⟨h v (by simp),fun u hu=>h u (by simp [hu])⟩⟩
  rcases List.mem_cons.1 hu with rfl|hu
  ·exact h.1
  exact h.2 u hu
def wv:Nat→Value→Option AVal
 |0,_=>none
 |n+1,v=>match v with
  | .bool b=>some (.bool b)
  | .int k z=>some (.int k (.lit z))
  | .string s=>some (.str (s.data.toList.map UInt8.toNat))
  | .pointer none=>some (.ptr none)
  | .slice none 0 0=>some (.slice none 0 (some 0) 0)
  | .map none=>some (.map none)
  | .chan none=>some (.chan none)
  | .func (.func f) a b=>match a.toList,b.toList with
   | [],[]=>some (.func f [] [])
   |_,_=>none
  | .nilFunc=>some .nilFunc
  | .nilIface=>some .nilIface
  | .agg cs=>match cs.toList.mapM (wv n)with
   |some as=>bif yL as then some (.agg as)else none
   |none=>none
  | .tuple cs=>(cs.toList.mapM (wv n)).map .tuple
  |_=>none
inductive QC where
 |d0|d1|d2|d3|d4|d5|d6|d7|d8|d9|d10|d11|d12|d13|d14|d15
def QC.of (j:Nat):QC:=(bif Nat.blt j 8 then(bif Nat.blt j 4 then(bif Nat.blt j 2 then(bif Nat.blt j 1 then .d0 else .d1)else(bif Nat.blt j 3 then .d2 else .d3))else(bif Nat.blt j 6 then(bif Nat.blt j 5 then .d4 else .d5)else(bif Nat.blt j 7 then .d6 else .d7)))else(bif Nat.blt j 12 then(bif Nat.blt j 10 then(bif Nat.blt j 9 then .d8 else .d9)else(bif Nat.blt j 11 then .d10 else .d11))else(bif Nat.blt j 14 then(bif Nat.blt j 13 then .d12 else .d13)else(bif Nat.blt j 15 then .d14 else .d15))))
inductive Tm where
 |nil
 |node (a0 a1 a2 a3 a4 a5 a6 a7 a8 a9 a10 a11 a12 a13 a14 a15:Option AVal) (nx:Tm)
def Tm.nx (t:Tm):Tm:=Tm.rec (motive:=fun _=>Tm) .nil (fun _ _ _ _ _ _ _ _ _ _ _ _ _ _ _ _ nx _=>nx) t
def Tm.g0 (t:Tm):Option AVal:=Tm.rec (motive:=fun _=>Option AVal) none (fun a0 _ _ _ _ _ _ _ _ _ _ _ _ _ _ _ _ _=>a0) t
def Tm.g1 (t:Tm):Option AVal:=Tm.rec (motive:=fun _=>Option AVal) none (fun _ a1 _ _ _ _ _ _ _ _ _ _ _ _ _ _ _ _=>a1) t
def Tm.g2 (t:Tm):Option AVal:=Tm.rec (motive:=fun _=>Option AVal) none (fun _ _ a2 _ _ _ _ _ _ _ _ _ _ _ _ _ _ _=>a2) t
def Tm.g3 (t:Tm):Option AVal:=Tm.rec (motive:=fun _=>Option AVal) none (fun _ _ _ a3 _ _ _ _ _ _ _ _ _ _ _ _ _ _=>a3) t
def Tm.g4 (t:Tm):Option AVal:=Tm.rec (motive:=fun _=>Option AVal) none (fun _ _ _ _ a4 _ _ _ _ _ _ _ _ _ _ _ _ _=>a4) t
def Tm.g5 (t:Tm):Option AVal:=Tm.rec (motive:=fun _=>Option AVal) none (fun _ _ _ _ _ a5 _ _ _ _ _ _ _ _ _ _ _ _=>a5) t
def Tm.g6 (t:Tm):Option AVal:=Tm.rec (motive:=fun _=>Option AVal) none (fun _ _ _ _ _ _ a6 _ _ _ _ _ _ _ _ _ _ _=>a6) t
def Tm.g7 (t:Tm):Option AVal:=Tm.rec (motive:=fun _=>Option AVal) none (fun _ _ _ _ _ _ _ a7 _ _ _ _ _ _ _ _ _ _=>a7) t
def Tm.g8 (t:Tm):Option AVal:=Tm.rec (motive:=fun _=>Option AVal) none (fun _ _ _ _ _ _ _ _ a8 _ _ _ _ _ _ _ _ _=>a8) t
def Tm.g9 (t:Tm):Option AVal:=Tm.rec (motive:=fun _=>Option AVal) none (fun _ _ _ _ _ _ _ _ _ a9 _ _ _ _ _ _ _ _=>a9) t
def Tm.g10 (t:Tm):Option AVal:=Tm.rec (motive:=fun _=>Option AVal) none (fun _ _ _ _ _ _ _ _ _ _ a10 _ _ _ _ _ _ _=>a10) t
def Tm.g11 (t:Tm):Option AVal:=Tm.rec (motive:=fun _=>Option AVal) none (fun _ _ _ _ _ _ _ _ _ _ _ a11 _ _ _ _ _ _=>a11) t
def Tm.g12 (t:Tm):Option AVal:=Tm.rec (motive:=fun _=>Option AVal) none (fun _ _ _ _ _ _ _ _ _ _ _ _ a12 _ _ _ _ _=>a12) t
def Tm.g13 (t:Tm):Option AVal:=Tm.rec (motive:=fun _=>Option AVal) none (fun _ _ _ _ _ _ _ _ _ _ _ _ _ a13 _ _ _ _=>a13) t
def Tm.g14 (t:Tm):Option AVal:=Tm.rec (motive:=fun _=>Option AVal) none (fun _ _ _ _ _ _ _ _ _ _ _ _ _ _ a14 _ _ _=>a14) t
def Tm.g15 (t:Tm):Option AVal:=Tm.rec (motive:=fun _=>Option AVal) none (fun _ _ _ _ _ _ _ _ _ _ _ _ _ _ _ a15 _ _=>a15) t
def Tm.g (j:QC) (t:Tm):Option AVal:=QC.rec (motive:=fun _=>Tm→Option AVal) Tm.g0 Tm.g1 Tm.g2 Tm.g3 Tm.g4 Tm.g5 Tm.g6 Tm.g7 Tm.g8 Tm.g9 Tm.g10 Tm.g11 Tm.g12 Tm.g13 Tm.g14 Tm.g15 j t
def Tm.s0 (v:AVal) (t:Tm):Tm:=Tm.rec (motive:=fun _=>Tm) .nil (fun _ a1 a2 a3 a4 a5 a6 a7 a8 a9 a10 a11 a12 a13 a14 a15 nx _=> .node (some v) a1 a2 a3 a4 a5 a6 a7 a8 a9 a10 a11 a12 a13 a14 a15 nx) t
def Tm.s1 (v:AVal) (t:Tm):Tm:=Tm.rec (motive:=fun _=>Tm) .nil (fun a0 _ a2 a3 a4 a5 a6 a7 a8 a9 a10 a11 a12 a13 a14 a15 nx _=> .node a0 (some v) a2 a3 a4 a5 a6 a7 a8 a9 a10 a11 a12 a13 a14 a15 nx) t
def Tm.s2 (v:AVal) (t:Tm):Tm:=Tm.rec (motive:=fun _=>Tm) .nil (fun a0 a1 _ a3 a4 a5 a6 a7 a8 a9 a10 a11 a12 a13 a14 a15 nx _=> .node a0 a1 (some v) a3 a4 a5 a6 a7 a8 a9 a10 a11 a12 a13 a14 a15 nx) t
def Tm.s3 (v:AVal) (t:Tm):Tm:=Tm.rec (motive:=fun _=>Tm) .nil (fun a0 a1 a2 _ a4 a5 a6 a7 a8 a9 a10 a11 a12 a13 a14 a15 nx _=> .node a0 a1 a2 (some v) a4 a5 a6 a7 a8 a9 a10 a11 a12 a13 a14 a15 nx) t
def Tm.s4 (v:AVal) (t:Tm):Tm:=Tm.rec (motive:=fun _=>Tm) .nil (fun a0 a1 a2 a3 _ a5 a6 a7 a8 a9 a10 a11 a12 a13 a14 a15 nx _=> .node a0 a1 a2 a3 (some v) a5 a6 a7 a8 a9 a10 a11 a12 a13 a14 a15 nx) t
def Tm.s5 (v:AVal) (t:Tm):Tm:=Tm.rec (motive:=fun _=>Tm) .nil (fun a0 a1 a2 a3 a4 _ a6 a7 a8 a9 a10 a11 a12 a13 a14 a15 nx _=> .node a0 a1 a2 a3 a4 (some v) a6 a7 a8 a9 a10 a11 a12 a13 a14 a15 nx) t
def Tm.s6 (v:AVal) (t:Tm):Tm:=Tm.rec (motive:=fun _=>Tm) .nil (fun a0 a1 a2 a3 a4 a5 _ a7 a8 a9 a10 a11 a12 a13 a14 a15 nx _=> .node a0 a1 a2 a3 a4 a5 (some v) a7 a8 a9 a10 a11 a12 a13 a14 a15 nx) t
def Tm.s7 (v:AVal) (t:Tm):Tm:=Tm.rec (motive:=fun _=>Tm) .nil (fun a0 a1 a2 a3 a4 a5 a6 _ a8 a9 a10 a11 a12 a13 a14 a15 nx _=> .node a0 a1 a2 a3 a4 a5 a6 (some v) a8 a9 a10 a11 a12 a13 a14 a15 nx) t
def Tm.s8 (v:AVal) (t:Tm):Tm:=Tm.rec (motive:=fun _=>Tm) .nil (fun a0 a1 a2 a3 a4 a5 a6 a7 _ a9 a10 a11 a12 a13 a14 a15 nx _=> .node a0 a1 a2 a3 a4 a5 a6 a7 (some v) a9 a10 a11 a12 a13 a14 a15 nx) t
def Tm.s9 (v:AVal) (t:Tm):Tm:=Tm.rec (motive:=fun _=>Tm) .nil (fun a0 a1 a2 a3 a4 a5 a6 a7 a8 _ a10 a11 a12 a13 a14 a15 nx _=> .node a0 a1 a2 a3 a4 a5 a6 a7 a8 (some v) a10 a11 a12 a13 a14 a15 nx) t
def Tm.s10 (v:AVal) (t:Tm):Tm:=Tm.rec (motive:=fun _=>Tm) .nil (fun a0 a1 a2 a3 a4 a5 a6 a7 a8 a9 _ a11 a12 a13 a14 a15 nx _=> .node a0 a1 a2 a3 a4 a5 a6 a7 a8 a9 (some v) a11 a12 a13 a14 a15 nx) t
def Tm.s11 (v:AVal) (t:Tm):Tm:=Tm.rec (motive:=fun _=>Tm) .nil (fun a0 a1 a2 a3 a4 a5 a6 a7 a8 a9 a10 _ a12 a13 a14 a15 nx _=> .node a0 a1 a2 a3 a4 a5 a6 a7 a8 a9 a10 (some v) a12 a13 a14 a15 nx) t
def Tm.s12 (v:AVal) (t:Tm):Tm:=Tm.rec (motive:=fun _=>Tm) .nil (fun a0 a1 a2 a3 a4 a5 a6 a7 a8 a9 a10 a11 _ a13 a14 a15 nx _=> .node a0 a1 a2 a3 a4 a5 a6 a7 a8 a9 a10 a11 (some v) a13 a14 a15 nx) t
def Tm.s13 (v:AVal) (t:Tm):Tm:=Tm.rec (motive:=fun _=>Tm) .nil (fun a0 a1 a2 a3 a4 a5 a6 a7 a8 a9 a10 a11 a12 _ a14 a15 nx _=> .node a0 a1 a2 a3 a4 a5 a6 a7 a8 a9 a10 a11 a12 (some v) a14 a15 nx) t
def Tm.s14 (v:AVal) (t:Tm):Tm:=Tm.rec (motive:=fun _=>Tm) .nil (fun a0 a1 a2 a3 a4 a5 a6 a7 a8 a9 a10 a11 a12 a13 _ a15 nx _=> .node a0 a1 a2 a3 a4 a5 a6 a7 a8 a9 a10 a11 a12 a13 (some v) a15 nx) t
def Tm.s15 (v:AVal) (t:Tm):Tm:=Tm.rec (motive:=fun _=>Tm) .nil (fun a0 a1 a2 a3 a4 a5 a6 a7 a8 a9 a10 a11 a12 a13 a14 _ nx _=> .node a0 a1 a2 a3 a4 a5 a6 a7 a8 a9 a10 a11 a12 a13 a14 (some v) nx) t
def Tm.s (j:QC) (v:AVal) (t:Tm):Tm:=QC.rec (motive:=fun _=>AVal→Tm→Tm) Tm.s0 Tm.s1 Tm.s2 Tm.s3 Tm.s4 Tm.s5 Tm.s6 Tm.s7 Tm.s8 Tm.s9 Tm.s10 Tm.s11 Tm.s12 Tm.s13 Tm.s14 Tm.s15 j v t
def Tm.sx (f:Tm→Tm) (t:Tm):Tm:=Tm.rec (motive:=fun _=>Tm) .nil (fun a0 a1 a2 a3 a4 a5 a6 a7 a8 a9 a10 a11 a12 a13 a14 a15 nx _=> .node a0 a1 a2 a3 a4 a5 a6 a7 a8 a9 a10 a11 a12 a13 a14 a15 (f nx)) t
def Tm.gk (j:QC) (k:Nat):Tm→Option AVal:=Nat.rec (motive:=fun _=>Tm→Option AVal) (Tm.g j) (fun _ ih t=>ih t.nx) k
def Tm.sk (j:QC) (v:AVal) (k:Nat):Tm→Tm:=Nat.rec (motive:=fun _=>Tm→Tm) (Tm.s j v) (fun _ ih t=>Tm.sx ih t) k
def Tm.get (i:Nat):Tm→Option AVal:=Tm.gk (QC.of (Nat.mod i 16)) (Nat.div i 16)
def Tm.put (i:Nat) (v:AVal):Tm→Tm:=Tm.sk (QC.of (Nat.mod i 16)) v (Nat.div i 16)
def Tm.mk (k:Nat):Tm:=Nat.rec (motive:=fun _=>Tm) .nil (fun _ ih=> .node none none none none none none none none none none none none none none none none ih) k
theorem Tm.s_nil (i:QC) (v:AVal):Tm.s i v .nil= .nil:=by cases i<;>rfl
theorem Tm.g_nil (j:QC):Tm.g j .nil=none:=by cases j<;>rfl
theorem Tm.g_s (i j:QC) (v:AVal) (t:Tm) (x:AVal) (h:Tm.g j (Tm.s i v t)=some x):(j=i∧x=v)∨(j≠i∧Tm.g j t=some x):=by
 cases t with
 |nil=>rw [Tm.s_nil,Tm.g_nil]at h;cases h
 |node=>cases i<;>cases j<;>first|exact .inl ⟨rfl,(Option.some.inj h).symm⟩|exact .inr ⟨nofun,h⟩
theorem Tm.gk_sk (i j:QC) (v:AVal): ∀(k l:Nat) (t:Tm) (x:AVal),Tm.gk j l (Tm.sk i v k t)=some x→(l=k∧j=i∧x=v)∨(¬(l=k∧j=i)∧Tm.gk j l t=some x):=by
 intro k
 induction k with
 |zero=>
  intro l t x h
  cases l with
  |zero=>
   rcases Tm.g_s i j v t x h with⟨h1,h2⟩|⟨h1,h2⟩
   ·exact .inl ⟨rfl,h1,h2⟩
   exact .inr ⟨fun e=>h1 e.2,h2⟩
  |succ l=>
   refine .inr ⟨fun e=>by omega,?_⟩
   cases t with
   |nil=>
    have e:Tm.sk i v 0 .nil= .nil:=Tm.s_nil i v
    rw [e]at h;exact h
   |node=>cases i<;>exact h
 |succ k ih=>
  intro l t x h
  cases l with
  |zero=>
   refine .inr ⟨fun e=>by omega,?_⟩
   cases t with
   |nil=>exact h
   |node=>cases j<;>exact h
  |succ l=>
   cases t with
   |nil=>
    exfalso
    have key: ∀l,Tm.gk j l (Tm.nil:Tm)=none:=by
     intro l
     induction l with
     |zero=>exact Tm.g_nil j
     |succ l ihl=>exact ihl
    have h':Tm.gk j (l+1) (Tm.nil:Tm)=some x:=h
    rw [key]at h'
    cases h'
   |node a0 a1 a2 a3 a4 a5 a6 a7 a8 a9 a10 a11 a12 a13 a14 a15 nx=>
    rcases ih l nx x h with⟨h1,h2⟩|⟨h1,h2⟩
    ·exact .inl ⟨by omega,h2⟩
    exact .inr ⟨fun e=>h1 ⟨by omega,e.2⟩,h2⟩
def QC.nat (d:QC):Nat:=QC.rec (motive:=fun _=>Nat) 0 1 2 3 4 5 6 7 8 9 10 11 12 13 14 15 d
theorem QC.nat_of: ∀(i:Nat),i<16→(QC.of i).nat=i:=by
 intro i h
 match i,h with
 |0,_|1,_|2,_|3,_|4,_|5,_|6,_|7,_|8,_|9,_|10,_|11,_|12,_|13,_|14,_|15,_=>rfl
 |n+16,h=>omega
theorem QC.of_inj (i j:Nat) (hi:i<16) (hj:j<16) (h:QC.of i=QC.of j):i=j:=by
 rw [←QC.nat_of i hi,←QC.nat_of j hj,h]
theorem Tm.get_put (i j:Nat) (v:AVal) (t:Tm) (x:AVal) (h:Tm.get j (Tm.put i v t)=some x):(j=i∧x=v)∨(j≠i∧Tm.get j t=some x):=by
 rcases Tm.gk_sk _ _ v _ _ t x h with⟨h1,h2,h3⟩|⟨h1,h2⟩
 ·have e1:j%16=i%16:=QC.of_inj _ _ (Nat.mod_lt _ (by decide)) (Nat.mod_lt _ (by decide)) h2
  have e2:j/16=i/16:=h1
  exact .inl ⟨by omega,h3⟩
 exact .inr ⟨fun e=>h1 (by subst e;exact⟨rfl,rfl⟩),h2⟩
theorem Tm.g_s_ne (i j:QC) (v:AVal) (t:Tm) (h:j≠i):Tm.g j (Tm.s i v t)=Tm.g j t:=by
 cases t with
 |nil=>rw [Tm.s_nil]
 |node=>cases i<;>cases j<;>first|rfl|exact absurd rfl h
theorem Tm.gk_sk_ne (i j:QC) (v:AVal): ∀(k l:Nat) (t:Tm),¬(l=k∧j=i)→Tm.gk j l (Tm.sk i v k t)=Tm.gk j l t:=by
 intro k
 induction k with
 |zero=>
  intro l t h
  cases l with
  |zero=>exact Tm.g_s_ne i j v t (fun e=>h ⟨rfl,e⟩)
  |succ l=>
   cases t with
   |nil=>
    have e:Tm.sk i v 0 .nil= .nil:=Tm.s_nil i v
    rw [e]
   |node=>cases i<;>rfl
 |succ k ih=>
  intro l t h
  cases l with
  |zero=>
   cases t with
   |nil=>rfl
   |node=>cases j<;>rfl
  |succ l=>
   cases t with
   |nil=>rfl
   |node a0 a1 a2 a3 a4 a5 a6 a7 a8 a9 a10 a11 a12 a13 a14 a15 nx=>exact ih l nx (fun e=>h ⟨by omega,e.2⟩)
theorem Tm.get_put_ne (i j:Nat) (v:AVal) (t:Tm) (h:j≠i):Tm.get j (Tm.put i v t)=Tm.get j t:=by
 refine Tm.gk_sk_ne _ _ v _ _ t fun e=>h ?_
 have e1:j%16=i%16:=QC.of_inj _ _ (Nat.mod_lt _ (by decide)) (Nat.mod_lt _ (by decide)) e.2
 have e2:j/16=i/16:=e.1
 omega
theorem Tm.get_mk (k i:Nat):Tm.get i (Tm.mk k)=none:=by
 have key: ∀(l k:Nat) (j:QC),Tm.gk j l (Tm.mk k)=none:=by
  intro l
  induction l with
  |zero=>intro k j;cases k<;>cases j<;>rfl
  |succ l ih=>
   intro k j
   cases k with
   |zero=>exact ih 0 j
   |succ k=>exact ih k j
 exact key _ _ _
structure vD where
 key:AVal
 val:AVal
 born:Nat
inductive uj where
 |cells (rw:Bool) (c:Tr AVal) (n:Nat)
 |map (es:List vD) (clock:Nat)
 |chan (cap:Nat) (buf:List AVal) (s r:Nat)
structure Hp where
 t:Tr uj
 next:Nat
def Hp.alloc (H:Hp) (o:uj):Hp:=⟨H.t.set H.next o,H.next+1⟩
def Hp.put (H:Hp) (i:Nat) (o:uj):Hp:=⟨H.t.set i o,H.next⟩
def gN (c:Tr AVal) (i n:Nat):Option (List AVal):=
 Nat.rec (motive:=fun _=>Nat→Option (List AVal)) (fun _=>some [])
  (fun _ ih i=>Option.rec (motive:=fun _=>Option (List AVal)) none (fun v=>Option.rec (motive:=fun _=>Option (List AVal)) none (fun vs=>some (v::vs)) (ih (Nat.succ i))) (c.get i)) n i
def ud (c:Tr AVal) (i:Nat) (vs:List AVal):Tr AVal:=
 List.rec (motive:=fun _=>Tr AVal→Nat→Tr AVal) (fun c _=>c) (fun v _ ih c i=>ih (c.set i v) (Nat.succ i)) vs c i
def Hp.read1 (H:Hp) (i off:Nat):Option AVal:=match H.t.get i with
 |some (.cells _ c _)=>c.get off
 |_=>none
def Hp.read (H:Hp) (i off n:Nat):Option (List AVal):=match H.t.get i with
 |some (.cells _ c _)=>gN c off n
 |_=>none
def Hp.write1 (H:Hp) (i off:Nat) (v:AVal):Option Hp:=match H.t.get i with
 |some (.cells true c m)=>bif Nat.blt off m && v.isCell then some (H.put i (.cells true (c.set off v) m))else none
 |_=>none
def Hp.write (H:Hp) (i off:Nat) (vs:List AVal):Option Hp:=match H.t.get i with
 |some (.cells true c m)=>bif Nat.ble (off+vs.length) m && yL vs then some (H.put i (.cells true (ud c off vs) m))else none
 |_=>none
def Hp.rowW (H:Hp) (i:Nat):Option Nat:=match H.t.get i with
 |some (.cells true _ n)=>some n
 |_=>none
def Hp.row (H:Hp) (i:Nat):Option Nat:=match H.t.get i with
 |some (.cells _ _ n)=>some n
 |_=>none
def Hp.mapAt (H:Hp) (i:Nat):Option (List vD×Nat):=match H.t.get i with
 |some (.map es k)=>some (es,k)
 |_=>none
end
noncomputable section
def yO (P:Program) (t:TypeId):Option TypeDesc:=P.underlying t
def yH (P:Program) (t:TypeId):Option Nat:=match P.info? t with
 |some i=>some i.size
 |none=>none
def qC (P:Program) (t:TypeId):Option Nat:=match P.info? t with
 |some i=>some i.bytes
 |none=>none
def qk (P:Program) (t:TypeId):Option AVal:=match P.info? t with
 |some i=>match i.zero with
  |some v=>wv 4 v
  |none=>none
 |none=>none
def jB (P:Program) (t:TypeId):Option Bool:=match yO P t with
 |some (.struct _)=>some true
 |some (.array _ _)=>some true
 |some _=>some false
 |none=>none
def DB (t:Nat) (T:Tm):Option AVal:=Tm.get t T
def B2 (v:Value) (_T:Tm):Option AVal:=wv 4 v
def Cg (f:FuncId) (_T:Tm):Option AVal:=some (.func f [] [])
def sK (_:Nat) (_T:Tm):Option AVal:=none
def opnd (T:Tm) (x:Operand):Option AVal:=Operand.rec (motive:=fun _=>Tm→Option AVal) DB B2 sK Cg x T
def qf (T:Tm):List Operand→Option (List AVal)
 | []=>some []
 |x::xs=>match opnd T x with
  |none=>none
  |some v=>match qf T xs with
   |none=>none
   |some vs=>some (v::vs)
inductive zH where
 |val (v:AVal) (H:Hp)
 |call (f:FuncId) (args:List AVal)
def zH.ofVal (v:Option AVal) (H:Hp):Option zH:=match v with
 |some v=>some (.val v H)
 |none=>none
def unit:AVal:= .tuple []
def Ux (P:Program) (t:TypeId) (H:Hp) (i off:Nat):Option AVal:=match jB P t with
 |some true=>match yH P t with
  |some n=>match H.read i off n with
   |some cs=>some (.agg cs)
   |none=>none
  |none=>none
 |some false=>H.read1 i off
 |none=>none
def Ub (P:Program) (t:TypeId) (H:Hp) (i off:Nat) (v:AVal):Option Hp:=match yH P t with
 |some 1=>match v.cells with
  | [v]=>H.write1 i off v
  |_=>none
 |some n=>bif Nat.beq v.cells.length n then H.write i off v.cells else none
 |none=>none
def newRow (cs:List AVal):uj:= .cells true (Tr.ofList cs 0 .nil) cs.length
def wC (H:Hp) (cs:List AVal):Hp:=H.alloc (newRow cs)
def Uz:Nat→List AVal→List AVal
 |0,_=> []
 |n+1,l=>match l with
  | []=> []
  |x::xs=>x::Uz n xs
def Gx:Nat→List AVal→List AVal
 |0,l=>l
 |n+1,l=>match l with
  | []=> []
  |_::xs=>Gx n xs
def jP (P:Program) (t:TypeId) (cs:List AVal) (off:Nat):Option AVal:=match jB P t with
 |some true=>match yH P t with
  |some n=>bif Nat.ble (off+n) cs.length then some (.agg (Uz n (Gx off cs)))else none
  |none=>none
 |some false=>cs[off]?
 |none=>none
def YB (P:Program):List Field→Option (List (Nat×Nat))
 | []=>some []
 |f::fs=>match yH P f.type with
  |none=>none
  |some n=>match YB P fs with
   |none=>none
   |some l=>some ((f.offset,n)::l)
def wr:List AVal→Nat→List AVal→List AVal
 | [],_,_=> []
 |c::cs,n+1,vs=>c::wr cs n vs
 |c::cs,0,vs=>match vs with
  | []=>c::cs
  |v::vs=>v::wr cs 0 vs
def ZB (place:Nat→Option (Nat×Nat)) (cells:List AVal):List (Nat×AVal)→Option (List AVal)
 | []=>some cells
 |(i,v)::rest=>match place i with
  |none=>none
  |some (off,size)=>bif Nat.beq v.cells.length size && Nat.ble (off+size) cells.length then ZB place (wr cells off v.cells) rest else none
def AVal.isTuple:AVal→Bool
 | .tuple _=>true
 |_=>false
def wT (T:Tm):List (Nat×Operand)→Option (List (Nat×AVal))
 | []=>some []
 |(i,x)::rest=>match opnd T x with
  |none=>none
  |some v=>bif v.isTuple then none else match wT T rest with
   |none=>none
   |some l=>some ((i,v)::l)
def yA (cs:List AVal):Nat→List AVal
 |0=> []
 |n+1=>cs++yA cs n
def DY:AVal→Option Int
 | .int _ (.lit z)=>some z
 |_=>none
def vU:AVal→Option Nat
 | .int _ (.lit (.ofNat n))=>some n
 |_=>none
def YM (n:Nat):AVal:= .int .i64 (.lit (.ofNat n))
def yN:Nat:=1048576
def YF (eq:TypeId→AVal→AVal→Option Bool) (P:Program) (xs ys:List AVal):List Field→Option Bool
 | []=>some true
 |f::fs=>bif f.name== "_" then none else match jP P f.type xs f.offset,jP P f.type ys f.offset with
  |some a,some b=>match eq f.type a b with
   |some true=>YF eq P xs ys fs
   |some false=>some false
   |none=>none
  |_,_=>none
def Zi (eq:AVal→AVal→Option Bool) (P:Program) (e:TypeId) (n:Nat) (xs ys:List AVal):Nat→Nat→Option Bool
 |0,_=>some true
 |k+1,i=>match jP P e xs (i*n),jP P e ys (i*n)with
  |some a,some b=>match eq a b with
   |some true=>Zi eq P e n xs ys k (i+1)
   |some false=>some false
   |none=>none
  |_,_=>none
def zZ:List Nat→Bool
 | []=>true
 |x::xs=>Nat.blt x 256 && zZ xs
def Yb (P:Program) (F:z9) (H:Hp):Nat→TypeId→AVal→AVal→Option Bool
 |0,_,_,_=>none
 |d+1,t,x,y=>match x,y with
  | .bool a,.bool b=>match yO P t with
   |some .bool=>some (a==b)
   |_=>none
  | .int k a,.int j b=>match yO P t with
   |some (.int _)=>bif vf k j then zU.eq F a b else none
   |_=>none
  | .str a,.str b=>match yO P t with
   |some .string=>bif qv a b then some true else bif zZ a && zZ b then some false else none
   |_=>none
  | .ptr a,.ptr b=>match yO P t with
   |some (.pointer e)=>match a,b with
    |none,none=>some true
    |none,some _=>some false
    |some _,none=>some false
    |some (i,o),some (j,p)=>match yH P e with
     |some 0=>none
     |some _=>bif Nat.beq i j then some (Nat.beq o p)else match H.rowW i,H.rowW j with
      |some _,some _=>some false
      |_,_=>none
     |none=>none
   |_=>none
  | .nilIface,.nilIface=>match yO P t with
   |some (.interface _)=>some true
   |_=>none
  | .nilIface,.iface _ _=>match yO P t with
   |some (.interface _)=>some false
   |_=>none
  | .iface _ _,.nilIface=>match yO P t with
   |some (.interface _)=>some false
   |_=>none
  | .slice none _ _ _,.slice b _ _ _=>match yO P t with
   |some (.slice _)=>some b.isNone
   |_=>none
  | .slice (some _) _ _ _,.slice none _ _ _=>match yO P t with
   |some (.slice _)=>some false
   |_=>none
  | .map none,.map b=>match yO P t with
   |some (.map _ _)=>some b.isNone
   |_=>none
  | .map (some _),.map none=>match yO P t with
   |some (.map _ _)=>some false
   |_=>none
  | .nilFunc,.nilFunc=>match yO P t with
   |some (.func _ _ _)=>some true
   |_=>none
  | .nilFunc,.func _ _ _=>match yO P t with
   |some (.func _ _ _)=>some false
   |_=>none
  | .func _ _ _,.nilFunc=>match yO P t with
   |some (.func _ _ _)=>some false
   |_=>none
  | .agg xs,.agg ys=>match yO P t with
   |some (.struct fs)=>bif P.stoodInHeld t then none else YF (Yb P F H d) P xs ys fs.toList
   |some (.array len e)=>match yH P e with
    |some n=>Zi (Yb P F H d e) P e n xs ys len 0
    |none=>none
   |_=>none
  |_,_=>none
def YU (op:BinOp) (a b:Nat):Option Nat:=match op with
 | .and=>some (Nat.land a b)
 | .or=>some (Nat.lor a b)
 | .xor=>some (Nat.xor a b)
 | .andNot=>some (Nat.xor a (Nat.land a b))
 |_=>none
def uZ (F:z9) (op:BinOp) (k:IntKind) (x y:zU):Option AVal:=
 let num (r:Option zU):Option AVal:=match r with
  |none=>none
  |some r=>match zU.wrap F k r with
   |none=>none
   |some r=>some (.int k r)
 let tst (r:Option Bool) (neg:Bool):Option AVal:=match r with
  |none=>none
  |some b=>some (.bool (xor b neg))
 match op with
 | .add=>num (x.add y)
 | .sub=>num (x.sub y)
 | .mul=>num (x.mul y)
 | .quo=>match x,y with
  | .lit a,.lit b=>bif gD b 0 then none else num (some (.lit (Int.tdiv a b)))
  |_,_=>none
 | .rem=>match x,y with
  | .lit a,.lit b=>bif gD b 0 then none else some (.int k (.lit (Int.tmod a b)))
  |_,_=>none
 | .eql=>tst (zU.eq F x y) false
 | .neq=>tst (zU.eq F x y) true
 | .lss=>tst (zU.lt F x y) false
 | .gtr=>tst (zU.lt F y x) false
 | .leq=>tst (zU.lt F y x) true
 | .geq=>tst (zU.lt F x y) true
 | .and| .or| .xor| .andNot=>match x,y with
  | .lit (.ofNat a),.lit (.ofNat b)=>bif QN k (.ofNat a) && QN k (.ofNat b)then(match YU op a b with
   |some r=>some (.int k (.lit (.ofNat r)))
   |none=>none)else none
  |_,_=>none
 |_=>none
def jc (F:z9) (op:BinOp) (k:IntKind) (x y:zU):Option AVal:=match x,y with
 | .lit (.ofNat a),.lit (.ofNat b)=>match op with
  | .shl=>bif Nat.ble b 64 then(match zU.wrap F k (.lit (.ofNat (a*2^(Nat.min b k.bits))))with
   |some r=>some (.int k r)
   |none=>none)else none
  | .shr=>bif Nat.ble b 64 then some (.int k (.lit (.ofNat (Nat.div a (2^(Nat.min b k.bits))))))else none
  |_=>none
 |_,_=>none
def km (P:Program) (t:TypeId) (c:Bool):AVal→AVal→Bool
 | .nilIface,.nilIface=>c
 | .agg _,.agg _=> !P.eqGuardType P.depth t
 |_,_=>true
def wJ (P:Program) (F:z9) (H:Hp) (op:BinOp) (t:TypeId) (c:Bool) (x y:AVal):Option AVal:=match x,y with
 | .int k a,.int j b=>match op with
  | .shl=>jc F op k a b
  | .shr=>jc F op k a b
  |_=>bif vf k j then uZ F op k a b else none
 | .str a,.str b=>match op with
  | .add=>bif zZ a && zZ b && Nat.ble (a.length+b.length) yN then some (.str (a++b))else none
  | .eql=>bif qv a b then some (.bool true)else bif zZ a && zZ b then some (.bool false)else none
  | .neq=>bif qv a b then some (.bool false)else bif zZ a && zZ b then some (.bool true)else none
  |_=>none
 |_,_=>match op with
  | .eql=>bif km P t c x y then(match Yb P F H 60 t x y with
   |some b=>some (.bool b)
   |none=>none)else none
  | .neq=>bif km P t c x y then(match Yb P F H 60 t x y with
   |some b=>some (.bool (!b))
   |none=>none)else none
  |_=>none
def D1 (F:z9) (op:UnOp) (x:AVal):Option AVal:=match op,x with
 | .not,.bool b=>some (.bool (!b))
 | .neg,.int k a=>match zU.sub (.lit 0) a with
  |some r=>match zU.wrap F k r with
   |some r=>some (.int k r)
   |none=>none
  |none=>none
 | .xor,.int k (.lit z)=>bif QN k z then(match k with
  | .u8| .u16| .u32| .u64=>some (.int k (.lit (gR k-z)))
  |_=>none)else none
 |_,_=>none
def c5 (P:Program) (F:z9) (src dst:TypeId) (x:AVal):Option AVal:=match x with
 | .int _ a=>match yO P src,yO P dst with
  |some (.int _),some (.int k)=>match zU.wrap F k a with
   |some r=>some (.int k r)
   |none=>none
  |_,_=>none
 | .str s=>match yO P src,yO P dst with
  |some .string,some .string=>some (.str s)
  |_,_=>none
 |_=>none
def wR (x:Option AVal) (dflt most:Nat):Option Nat:=match x with
 |none=>some dflt
 |some v=>match vU v with
  |some n=>bif Nat.ble n most then some n else none
  |none=>none
def wI (len:Nat) (m:Option Nat):Nat:=match m with
 |some c=>c
 |none=>len
def j4 (len:Nat) (cap:Option Nat) (mx:Option AVal):Option (Option Nat):=match mx with
 |none=>some cap
 |some v=>match vU v with
  |some n=>bif Nat.ble n (wI len cap)then some (some n)else none
  |none=>none
def yv (len:Nat) (cap:Option Nat) (lo hi mx:Option AVal):Option (Nat×Nat×Option Nat):=
 match mx,hi with
 |some _,none=>none
 |_,_=>
  match j4 len cap mx with
  |none=>none
  |some m=>match wR hi len (wI len m)with
   |none=>none
   |some h=>match wR lo 0 h with
    |none=>none
    |some l=>some (l,h,m)
def wb (P:Program) (t:TypeId) (H:Hp) (x:AVal) (lo hi mx:Option AVal):Option AVal:=match x with
 | .slice a len cap es=>match yO P t with
  |some (.slice e)=>match yH P e,yv len cap lo hi mx with
   |some size,some (l,h,m)=>match a,m with
    |none,some c=>some (.slice none (h-l) (some (c-l)) es)
    |none,none=>none
    |some (i,off),some c=>bif Nat.beq es size then(bif Nat.beq c l then some (.slice (some (i,off)) (h-l) (some (c-l)) es)
     else some (.slice (some (i,off+l*size)) (h-l) (some (c-l)) es))else none
    |some (i,off),none=>bif Nat.beq es size then(bif Nat.beq len l then some (.slice (some (i,off+l*size)) 0 none es)
     else some (.slice (some (i,off+l*size)) (h-l) none es))else none
   |_,_=>none
  |_=>none
 | .ptr (some (i,off))=>match yO P t with
  |some (.array n e)=>match yH P e,yv n (some n) lo hi mx with
   |some size,some (l,h,some c)=>match H.row i with
    |some rows=>bif Nat.ble (off+n*size) rows then some (.slice (some (i,bif Nat.beq c l then off else off+l*size)) (h-l) (some (c-l)) size)else none
    |none=>none
   |_,_=>none
  |_=>none
 | .str s=>match yO P t with
  |some .string=>match mx with
   |some _=>none
   |none=>bif zZ s then(match yv s.length (some s.length) lo hi none with
    |some (l,h,_)=>some (.str ((s.drop l).take (h-l)))
    |none=>none)else none
  |_=>none
 |_=>none
def ji (H:Hp) (size n:Nat):AVal→Option (List AVal)
 | .slice (some (i,off)) len _ _=>bif Nat.beq n 0 then some []else bif Nat.ble n len then H.read i off (n*size)else none
 | .slice none _ _ _=>bif Nat.beq n 0 then some []else none
 | .str s=>bif zZ s && (Nat.beq size 1 && Nat.ble n s.length)then some (Uz n (s.map fun b=> .int .u8 (.lit (.ofNat b))))else none
 |_=>none
def dW:AVal→Option Nat
 | .slice _ n _ _=>some n
 | .str s=>bif zZ s then some s.length else none
 |_=>none
def Vi (P:Program) (e:TypeId) (H:Hp) (s x:AVal):Option zH:=match s,x with
 | .slice none 0 (some 0) _,.int _ (.lit m)=>match yH P e,qC P e,qk P e with
  |some size,some bytes,some z=>
   bif Nat.beq z.cells.length size && Nat.blt 0 size && Nat.blt 0 m.toNat && Nat.ble m.toNat 1024 && Nat.ble bytes yN && yL z.cells then
    some (.val (.slice (some (H.next,0)) m.toNat none size) (wC H (yA z.cells m.toNat)))else none
  |_,_,_=>none
 |_,_=>none
def vG (P:Program) (types:List TypeId) (H:Hp) (args:List AVal):Option zH:=match types,args with
 |t::xt::_,s::x::_=>match yO P t,yO P xt with
  |some (.slice e),some (.slice _)=>match yH P e,qC P e,qk P e,s,dW x with
   |some size,some bytes,some z,.slice a len cap es,some n=>
    bif Nat.beq z.cells.length size && Nat.ble (len+n) yN && Nat.ble bytes yN then
     match ji H size n x with
     |none=>none
     |some new=>match a,cap with
      |none,_=>bif Nat.beq n 0 then some (.val s H)else
       some (.val (.slice (some (H.next,0)) (len+n) none size) (wC H new))
      |some (i,off),none=>bif Nat.beq n 0 then some (.val s H)else bif Nat.beq es size then(match H.rowW i with
       |some rows=>bif Nat.ble (off+len*size) rows then(match H.read i off (len*size)with
        |some old=>some (.val (.slice (some (H.next,0)) (len+n) none size) (wC ⟨H.t.del i,H.next⟩ (old++new)))
        |none=>none)else none
       |none=>none)else none
      |some (i,off),some c=>bif Nat.beq n 0 then some (.val s H)else bif Nat.ble (len+n) c then(match H.write i (off+len*size) new with
       |some H=>some (.val (.slice (some (i,off)) (len+n) (some c) es) H)
       |none=>none)
       else bif Nat.beq len 0 then some (.val (.slice (some (H.next,0)) (len+n) none size) (wC H new))else match H.read i off (len*size)with
        |some old=>some (.val (.slice (some (H.next,0)) (len+n) none size) (wC H (old++new)))
        |none=>none
    else none
   |_,_,_,_,_=>none
  |some (.slice e),some (.int _)=>Vi P e H s x
  |_,_=>none
 |_,_=>none
def Vd:AVal→AVal→Bool
 | .bool a,.bool b=>a==b
 | .int k (.lit a),.int j (.lit b)=>vf k j && gD a b
 |_,_=>false
def Y2:List AVal→List AVal→Bool
 | [],[]=>true
 |a::x,b::y=>Vd a b && Y2 x y
 |_,_=>false
def j9:AVal→AVal→Bool
 | .int k (.lit a),.int j (.lit b)=>vf k j && gD a b
 | .bool a,.bool b=>a==b
 | .str a,.str b=>qv a b && zZ a
 | .agg a,.agg b=>Y2 a b
 |_,_=>false
def wM (P:Program) (t:TypeId) (k:AVal):Bool:=match k with
 | .int _ _=>match yO P t with
  |some (.int _)=>true
  |_=>false
 | .bool _=>match yO P t with
  |some .bool=>true
  |_=>false
 | .str _=>match yO P t with
  |some .string=>true
  |_=>false
 | .agg cs=>match yO P t with
  |some (.struct fs)=>fs.toList.all fun f=>match jP P f.type cs f.offset with
   |some (.int _ _)=>match yO P f.type with
    |some (.int _)=>true
    |_=>false
   |some (.bool _)=>match yO P f.type with
    |some .bool=>true
    |_=>false
   |_=>false
  |_=>false
 |_=>false
def uO (eq:AVal→AVal→Option Bool) (k:AVal):List vD→Nat→Option (Option (Nat×vD))
 | [],_=>some none
 |e::es,i=>match eq k e.key with
  |some true=>some (some (i,e))
  |some false=>uO eq k es (i+1)
  |none=>none
def kR (P:Program) (F:z9) (t:TypeId) (H:Hp) (x k:AVal) (ok:Bool):Option AVal:=match yO P t with
 |some (.map kt et)=>bif wM P kt k then(match qk P et with
  |none=>none
  |some z=>match(match x with
   | .map none=>some []
   | .map (some r)=>match H.mapAt r with
    |some (es,_)=>some es
    |none=>none
   |_=>none)with
   |none=>none
   |some es=>match uO (Yb P F H 3 kt) k es 0 with
    |some (some (_,e))=>some (bif ok then .tuple [e.val,.bool true]else e.val)
    |some none=>some (bif ok then .tuple [z,.bool false]else z)
    |none=>none)else none
 |_=>none
def Ys (P:Program) (F:z9) (t:TypeId) (H:Hp) (m k v:AVal):Option Hp:=match yO P t with
 |some (.map kt _)=>bif wM P kt k then(match m with
  | .map (some r)=>match H.mapAt r with
   |some (es,clock)=>match uO (Yb P F H 3 kt) k es 0 with
    |some (some (i,e))=>bif j9 k e.key then some (H.put r (.map (es.set i ⟨k,v,e.born⟩) clock))else none
    |some none=>some (H.put r (.map (es++ [⟨k,v,clock⟩]) (clock+1)))
    |none=>none
   |none=>none
  |_=>none)else none
 |_=>none
def QW (P:Program) (F:z9) (t:TypeId) (H:Hp) (m k:AVal):Option Hp:=match yO P t with
 |some (.map kt _)=>bif wM P kt k then(match m with
  | .map (some r)=>match H.mapAt r with
   |some (es,clock)=>match uO (Yb P F H 3 kt) k es 0 with
    |some (some (i,_))=>some (H.put r (.map (es.eraseIdx i) clock))
    |some none=>some (H.put r (.map es clock))
    |none=>none
   |none=>none
  | .map none=>some H
  |_=>none)else none
 |_=>none
def oD (F:z9):AVal→AVal→Option AVal
 | .int k x,.int _ y=>match zU.lt F y x with
  |some true=>some (.int k y)
  |some false=>some (.int k x)
  |none=>none
 |_,_=>none
def eo (F:z9):AVal→AVal→Option AVal
 | .int k x,.int _ y=>match zU.lt F x y with
  |some true=>some (.int k y)
  |some false=>some (.int k x)
  |none=>none
 |_,_=>none
def GF (f:AVal→AVal→Option AVal):AVal→List AVal→Option AVal
 |v,[]=>some v
 |v,x::xs=>match f v x with
  |some w=>GF f w xs
  |none=>none
def tO (P:Program) (H:Hp) (t:TypeId) (x:AVal):Option AVal:=match yO P t,x with
 |some .string,.str s=>bif zZ s then some (YM s.length)else none
 |some (.array n _),_=>some (YM n)
 |some (.slice _),.slice _ n _ _=>some (YM n)
 |some (.map _ _),.map none=>some (YM 0)
 |some (.map _ _),.map (some r)=>match H.mapAt r with
  |some (es,_)=>some (YM es.length)
  |none=>none
 |some (.chan _ _),.chan (some r)=>match H.t.get r with
  |some (.chan _ buf _ _)=>some (YM buf.length)
  |_=>none
 |_,_=>none
def yI (P:Program) (F:z9) (b:Builtin) (types:List TypeId) (H:Hp) (args:List AVal):Option zH:=match b with
 | .append=>vG P types H args
 | .len=>match types,args with
  |t::_,x::_=>zH.ofVal (tO P H t x) H
  |_,_=>none
 | .cap=>match types,args with
  |t::_,.slice _ _ (some c) _::_=>match yO P t with
   |some (.slice _)=>some (.val (YM c) H)
   |_=>none
  |_,_=>none
 | .min=>match args with
  |x::xs=>zH.ofVal (GF (oD F) x xs) H
  | []=>none
 | .max=>match args with
  |x::xs=>zH.ofVal (GF (eo F) x xs) H
  | []=>none
 | .delete=>match types,args with
  |t::_,m::k::_=>match QW P F t H m k with
   |some H=>some (.val unit H)
   |none=>none
  |_,_=>none
 | .copy=>match types,args with
  |t::_,.slice (some (i,off)) n _ _::x::_=>match yO P t with
   |some (.slice e)=>match yH P e,dW x with
    |some size,some m=>
     let k:=Nat.min m n
     match ji H size k x with
     |some cs=>match H.write i off cs with
      |some H=>some (.val (YM k) H)
      |none=>none
     |none=>none
    |_,_=>none
   |_=>none
  |_,_=>none
 | .clear=>match types,args with
  |t::_,.slice (some (i,off)) n _ _::_=>match yO P t with
   |some (.slice e)=>match qk P e with
    |some z=>match H.write i off (yA z.cells n)with
     |some H=>some (.val unit H)
     |none=>none
    |none=>none
   |_=>none
  |t::_,.slice none _ _ _::_=>match yO P t with
   |some (.slice _)=>some (.val unit H)
   |_=>none
  |_,_=>none
 |_=>none
abbrev OV:=Option AVal
def Un (c:OV) (a b:OV) (H:Hp):Option zH:=match c with
 |some (.bool c)=>zH.ofVal (bif c then a else b) H
 |_=>none
def vt (z:OV) (H:Hp):Option zH:=match z with
 |some z=>bif z.isTuple then none else some (.val (.ptr (some (H.next,0))) (wC H z.cells))
 |none=>none
def Zb (P:Program) (t:TypeId) (z:OV) (l:Option (List (Nat×AVal))) (H:Hp):Option zH:=match z,l with
 |some z,some l=>match yO P t with
  |some (.struct fs)=>bif z.isTuple then none else match YB P fs.toList with
   |some pl=>match ZB (fun i=>pl[i]?) z.cells l with
    |some cs=>some (.val (.agg cs) H)
    |none=>none
   |none=>none
  |some (.array _ e)=>bif z.isTuple then none else match yH P e with
   |some size=>match ZB (fun i=>some (i*size,size)) z.cells l with
    |some cs=>some (.val (.agg cs) H)
    |none=>none
   |none=>none
  |_=>none
 |_,_=>none
def wg (P:Program) (t:TypeId) (len:Nat) (l:Option (List (Nat×AVal))) (H:Hp):Option zH:=match yO P t,l with
 |some (.slice e),some l=>match yH P e,qk P e with
  |some size,some z=>bif Nat.beq z.cells.length size && Nat.ble (len*size) 65536 && !z.isTuple then
   match ZB (fun i=>some (i*size,size)) (yA z.cells len) l with
   |some cs=>some (.val (.slice (some (H.next,0)) len (some len) size) (wC H cs))
   |none=>none
   else none
  |_,_=>none
 |_,_=>none
def WX (P:Program) (t:TypeId) (x:OV) (H:Hp):Option zH:=match x with
 |some (.ptr (some (i,off)))=>zH.ofVal (Ux P t H i off) H
 |_=>none
def YP (P:Program) (t:TypeId) (x y:OV) (H:Hp):Option zH:=match x,y with
 |some (.ptr (some (i,off))),some v=>match Ub P t H i off v with
  |some H=>some (.val unit H)
  |none=>none
 |_,_=>none
def j5 (x:OV) (H:Hp):Option zH:=match x with
 |some (.ptr (some a))=>some (.val (.ptr (some a)) H)
 |some (.func f a b)=>some (.val (.func f a b) H)
 |_=>none
def tG:Operand→Bool
 | .const _=>true
 |_=>false
def Gl (P:Program) (F:z9) (op:BinOp) (t:TypeId) (c:Bool) (x y:OV) (H:Hp):Option zH:=match x,y with
 |some a,some b=>zH.ofVal (wJ P F H op t c a b) H
 |_,_=>none
def pi (F:z9) (op:UnOp) (x:OV) (H:Hp):Option zH:=match x with
 |some a=>zH.ofVal (D1 F op a) H
 |none=>none
def G6 (P:Program) (F:z9) (s d:TypeId) (x:OV) (H:Hp):Option zH:=match x with
 |some a=>zH.ofVal (c5 P F s d a) H
 |none=>none
def Yu (P:Program) (t:TypeId) (x:OV) (H:Hp):Option zH:=match x,yO P t with
 |some _,some (.interface _)=>none
 |some v,some _=>some (.val (.iface t v) H)
 |_,_=>none
def UY (f:Fn) (a b:Option (List AVal)) (H:Hp):Option zH:=match f,a,b with
 | .func f,some a,some b=>some (.val (.func f a b) H)
 |_,_,_=>none
def uI (P:Program) (t:TypeId) (r:Option OV) (H:Hp):Option zH:=match yO P t with
 |some (.map _ _)=>match r with
  |none=>some (.val (.map (some H.next)) (H.alloc (.map [] 0)))
  |some (some (.int _ _))=>some (.val (.map (some H.next)) (H.alloc (.map [] 0)))
  |_=>none
 |_=>none
def um (P:Program) (t:TypeId) (x:OV) (H:Hp):Option zH:=match yO P t,x with
 |some (.chan _ e),some v=>match vU v,qC P e with
  |some n,some b=>bif Nat.ble n 1024 && Nat.ble b yN then some (.val (.chan (some H.next)) (H.alloc (.chan n [] 0 0)))else none
  |_,_=>none
 |_,_=>none
def uA (P:Program) (t:TypeId) (x y:OV) (H:Hp):Option zH:=match yO P t,x,y with
 |some (.slice e),some a,some b=>match vU a,vU b,yH P e,qk P e,qC P e with
  |some l,some c,some size,some z,some bytes=>
   bif Nat.beq z.cells.length size && Nat.ble c 65536 && Nat.ble l c && Nat.ble bytes yN && !z.isTuple then
    some (.val (.slice (some (H.next,0)) l (some c) size) (wC H (yA z.cells c)))
   else none
  |_,_,_,_,_=>none
 |_,_,_=>none
def qr (P:Program) (t:TypeId) (x:OV) (lo hi mx:Option OV) (H:Hp):Option zH:=match x,lo,hi,mx with
 |_,some none,_,_=>none
 |_,_,some none,_=>none
 |_,_,_,some none=>none
 |some v,lo,hi,mx=>zH.ofVal (wb P t H v (lo.getD none) (hi.getD none) (mx.getD none)) H
 |none,_,_,_=>none
def uC (P:Program) (t:TypeId) (x:OV) (n:Nat) (H:Hp):Option zH:=match x,yO P t with
 |some (.ptr (some (i,off))),some (.struct fs)=>match fs[n]? with
  |some f=>match yH P f.type with
   |some 0=>none
   |some _=>some (.val (.ptr (some (i,off+f.offset))) H)
   |none=>none
  |none=>none
 |_,_=>none
def YW (P:Program) (t:TypeId) (x:OV) (n:Nat) (H:Hp):Option zH:=match x,yO P t with
 |some (.agg cs),some (.struct fs)=>match fs[n]? with
  |some f=>zH.ofVal (jP P f.type cs f.offset) H
  |none=>none
 |_,_=>none
def vO (P:Program) (t:TypeId) (x y:OV) (H:Hp):Option zH:=match x,y,yO P t with
 |some (.ptr (some (i,off))),some v,some (.array len e)=>match vU v,yH P e with
  |some n,some size=>bif Nat.blt n len then some (.val (.ptr (some (i,off+n*size))) H)else none
  |_,_=>none
 |some (.slice (some (i,off)) len _ _),some v,some (.slice e)=>match vU v,yH P e with
  |some n,some size=>bif Nat.blt n len then some (.val (.ptr (some (i,off+n*size))) H)else none
  |_,_=>none
 |_,_,_=>none
def Yr (P:Program) (t:TypeId) (x y:OV) (H:Hp):Option zH:=match x,y,yO P t with
 |some (.agg cs),some v,some (.array len e)=>match vU v,yH P e with
  |some n,some size=>bif Nat.blt n len then zH.ofVal (jP P e cs (n*size)) H else none
  |_,_=>none
 |some (.str s),some v,some .string=>match vU v with
  |some n=>bif zZ s then(match s[n]? with
   |some b=>some (.val (.int .u8 (.lit (.ofNat b))) H)
   |none=>none)else none
  |none=>none
 |_,_,_=>none
def Zt (P:Program) (F:z9) (t:TypeId) (x k:OV) (ok:Bool) (H:Hp):Option zH:=match x,k with
 |some m,some k=>zH.ofVal (kR P F t H m k ok) H
 |_,_=>none
def vg (P:Program) (F:z9) (t:TypeId) (m k x:OV) (H:Hp):Option zH:=match m,k,x with
 |some m,some k,some v=>match Ys P F t H m k v with
  |some H=>some (.val unit H)
  |none=>none
 |_,_,_=>none
def ZR (P:Program) (F:z9) (t:TypeId) (m k:OV) (H:Hp):Option zH:=match m,k,yO P t with
 |some (.map (some r)),some k,some (.map kt et)=>bif wM P kt k then(match H.mapAt r,qk P et with
  |some (es,clock),some z=>match uO (Yb P F H 3 kt) k es 0 with
   |some (some (i,e))=>bif j9 k e.key then some (.val (.tuple [e.val,YM e.born]) (H.put r (.map (es.set i ⟨k,e.val,e.born⟩) clock)))else none
   |some none=>some (.val (.tuple [z,YM clock]) (H.put r (.map (es++ [⟨k,z,clock⟩]) (clock+1))))
   |none=>none
  |_,_=>none)else none
 |_,_,_=>none
def Jo (b:Nat):List vD→Nat→Option (Nat×vD)
 | [],_=>none
 |e::es,i=>bif Nat.beq e.born b then some (i,e)else Jo b es (i+1)
def gc (m st x:OV) (H:Hp):Option zH:=match m,st,x with
 |some (.map (some r)),some s,some v=>match vU s,H.mapAt r with
  |some b,some (es,clock)=>match Jo b es 0 with
   |some (i,e)=>some (.val unit (H.put r (.map (es.set i ⟨e.key,v,e.born⟩) clock)))
   |none=>none
  |_,_=>none
 |_,_,_=>none
def gj (x:OV) (n:Nat) (H:Hp):Option zH:=match x with
 |some (.tuple vs)=>zH.ofVal (vs[n]?) H
 |_=>none
def YA (P:Program) (x:OV) (asserted:TypeId) (ok:Bool) (H:Hp):Option zH:=match x,yO P asserted with
 |some _,some (.interface _)=>none
 |some .nilIface,some _=>bif ok then(match qk P asserted with
  |some z=>some (.val (.tuple [z,.bool false]) H)
  |none=>none)else none
 |some (.iface t v),some _=>bif Nat.beq t asserted then some (.val (bif ok then .tuple [v,.bool true]else v) H)else none
 |_,_=>none
def yU (P:Program) (F:z9) (b:Builtin) (types:List TypeId) (args:Option (List AVal)) (H:Hp):Option zH:=match args with
 |some args=>yI P F b types H args
 |none=>none
def kq (f:OV) (args:Option (List AVal)):Option zH:=match f,args with
 |some (.func f a b),some args=>some (.call f (a++args++b))
 |_,_=>none
def yJ (P:Program) (F:z9) (T:Tm) (H:Hp) (o:Oper):Option zH:=match o.op with
 | .move x=>zH.ofVal (opnd T x) H
 | .assign x=>zH.ofVal (opnd T x) H
 | .pick c a b=>Un (opnd T c) (opnd T a) (opnd T b) H
 | .alloc t=>vt (qk P t) H
 | .box _ x=>vt (opnd T x) H
 | .build t parts=>Zb P t (qk P t) (wT T parts.toList) H
 | .buildSlice t len parts=>wg P t len (wT T parts.toList) H
 | .load t x=>WX P t (opnd T x) H
 | .store t x y=>YP P t (opnd T x) (opnd T y) H
 | .nilCheck x=>j5 (opnd T x) H
 | .binOp op t x y _=>Gl P F op t (tG x||tG y) (opnd T x) (opnd T y) H
 | .unOp op _ x=>pi F op (opnd T x) H
 | .convert s d x=>G6 P F s d (opnd T x) H
 | .makeInterface t x=>Yu P t (opnd T x) H
 | .makeFunc f a b=>UY f (qf T a.toList) (qf T b.toList) H
 | .makeMap t r=>uI P t (r.map (opnd T)) H
 | .makeChan t x=>um P t (opnd T x) H
 | .makeSlice t x y=>uA P t (opnd T x) (opnd T y) H
 | .slice t x lo hi mx=>qr P t (opnd T x) (lo.map (opnd T)) (hi.map (opnd T)) (mx.map (opnd T)) H
 | .fieldAddr t x n=>uC P t (opnd T x) n H
 | .field t x n=>YW P t (opnd T x) n H
 | .indexAddr t x y=>vO P t (opnd T x) (opnd T y) H
 | .index t x y=>Yr P t (opnd T x) (opnd T y) H
 | .lookup t x k ok=>Zt P F t (opnd T x) (opnd T k) ok H
 | .mapUpdate t m k x=>vg P F t (opnd T m) (opnd T k) (opnd T x) H
 | .insert t m k x=>vg P F t (opnd T m) (opnd T k) (opnd T x) H
 | .mapEntry t m k=>ZR P F t (opnd T m) (opnd T k) H
 | .entryStore _ m st x=>gc (opnd T m) (opnd T st) (opnd T x) H
 | .extract x n=>gj (opnd T x) n H
 | .typeAssert x _ asserted ok=>YA P (opnd T x) asserted ok H
 | .call c=>match c.callee with
  | .builtin b=>yU P F b c.argTypes.toList (qf T c.args.toList) H
  | .value f=>kq (opnd T f) (qf T c.args.toList)
  | .invoke _ _=>none
 |_=>none
def AI (f:Operand) (c:Call) (_P:Program) (_F:z9) (T:Tm) (_H:Hp):Option zH:=kq (opnd T f) (qf T c.args.toList)
def iy (_r:Operand) (_m:String) (_c:Call) (_P:Program) (_F:z9) (_T:Tm) (_H:Hp):Option zH:=none
def AS (b:Builtin) (c:Call) (P:Program) (F:z9) (T:Tm) (H:Hp):Option zH:=yU P F b c.argTypes.toList (qf T c.args.toList) H
def CO (x:Operand) (_P:Program) (_F:z9) (T:Tm) (H:Hp):Option zH:=zH.ofVal (opnd T x) H
def sU (x:Operand) (_P:Program) (_F:z9) (T:Tm) (H:Hp):Option zH:=zH.ofVal (opnd T x) H
def CJ (c:Operand) (a:Operand) (b:Operand) (_P:Program) (_F:z9) (T:Tm) (H:Hp):Option zH:=Un (opnd T c) (opnd T a) (opnd T b) H
def Ae (t:TypeId) (P:Program) (_F:z9) (_T:Tm) (H:Hp):Option zH:=vt (qk P t) H
def DD (_t:TypeId) (x:Operand) (_P:Program) (_F:z9) (T:Tm) (H:Hp):Option zH:=vt (opnd T x) H
def BD (t:TypeId) (parts:Array (Nat×Operand)) (P:Program) (_F:z9) (T:Tm) (H:Hp):Option zH:=Zb P t (qk P t) (wT T parts.toList) H
def dK (t:TypeId) (len:Nat) (parts:Array (Nat×Operand)) (P:Program) (_F:z9) (T:Tm) (H:Hp):Option zH:=wg P t len (wT T parts.toList) H
def aw (t:TypeId) (m:Operand) (k:Operand) (x:Operand) (P:Program) (F:z9) (T:Tm) (H:Hp):Option zH:=vg P F t (opnd T m) (opnd T k) (opnd T x) H
def CH (t:TypeId) (x:Operand) (P:Program) (_F:z9) (T:Tm) (H:Hp):Option zH:=WX P t (opnd T x) H
def iY (t:TypeId) (x:Operand) (y:Operand) (P:Program) (_F:z9) (T:Tm) (H:Hp):Option zH:=YP P t (opnd T x) (opnd T y) H
def AX (_g:Nat) (_P:Program) (_F:z9) (_T:Tm) (_H:Hp):Option zH:=none
def AW (_g:Nat) (_P:Program) (_F:z9) (_T:Tm) (_H:Hp):Option zH:=none
def fE (x:Operand) (_P:Program) (_F:z9) (T:Tm) (H:Hp):Option zH:=j5 (opnd T x) H
def Ac (op:BinOp) (t:TypeId) (x:Operand) (y:Operand) (_yt:TypeId) (P:Program) (F:z9) (T:Tm) (H:Hp):Option zH:=Gl P F op t (tG x||tG y) (opnd T x) (opnd T y) H
def Bz (op:UnOp) (_t:TypeId) (x:Operand) (_P:Program) (F:z9) (T:Tm) (H:Hp):Option zH:=pi F op (opnd T x) H
def r4 (s:TypeId) (d:TypeId) (x:Operand) (P:Program) (F:z9) (T:Tm) (H:Hp):Option zH:=G6 P F s d (opnd T x) H
def Y9 (_d:TypeId) (_x:Operand) (_P:Program) (_F:z9) (_T:Tm) (_H:Hp):Option zH:=none
def UH (t:TypeId) (x:Operand) (P:Program) (_F:z9) (T:Tm) (H:Hp):Option zH:=Yu P t (opnd T x) H
def ny (f:Fn) (a:Array Operand) (b:Array Operand) (_P:Program) (_F:z9) (T:Tm) (H:Hp):Option zH:=UY f (qf T a.toList) (qf T b.toList) H
def lZ (t:TypeId) (r:Option Operand) (P:Program) (_F:z9) (T:Tm) (H:Hp):Option zH:=uI P t (r.map (opnd T)) H
def nn (t:TypeId) (x:Operand) (P:Program) (_F:z9) (T:Tm) (H:Hp):Option zH:=um P t (opnd T x) H
def pZ (t:TypeId) (x:Operand) (y:Operand) (P:Program) (_F:z9) (T:Tm) (H:Hp):Option zH:=uA P t (opnd T x) (opnd T y) H
def At (t:TypeId) (x:Operand) (lo:Option Operand) (hi:Option Operand) (mx:Option Operand) (P:Program) (_F:z9) (T:Tm) (H:Hp):Option zH:=qr P t (opnd T x) (lo.map (opnd T)) (hi.map (opnd T)) (mx.map (opnd T)) H
def dV (t:TypeId) (x:Operand) (n:Nat) (P:Program) (_F:z9) (T:Tm) (H:Hp):Option zH:=uC P t (opnd T x) n H
def B8 (t:TypeId) (x:Operand) (n:Nat) (P:Program) (_F:z9) (T:Tm) (H:Hp):Option zH:=YW P t (opnd T x) n H
def pA (t:TypeId) (x:Operand) (y:Operand) (P:Program) (_F:z9) (T:Tm) (H:Hp):Option zH:=vO P t (opnd T x) (opnd T y) H
def Al (t:TypeId) (x:Operand) (y:Operand) (P:Program) (_F:z9) (T:Tm) (H:Hp):Option zH:=Yr P t (opnd T x) (opnd T y) H
def aN (t:TypeId) (x:Operand) (k:Operand) (ok:Bool) (P:Program) (F:z9) (T:Tm) (H:Hp):Option zH:=Zt P F t (opnd T x) (opnd T k) ok H
def dr (t:TypeId) (m:Operand) (k:Operand) (x:Operand) (P:Program) (F:z9) (T:Tm) (H:Hp):Option zH:=vg P F t (opnd T m) (opnd T k) (opnd T x) H
def nE (t:TypeId) (m:Operand) (k:Operand) (P:Program) (F:z9) (T:Tm) (H:Hp):Option zH:=ZR P F t (opnd T m) (opnd T k) H
def xT (_t:TypeId) (m:Operand) (st:Operand) (x:Operand) (_P:Program) (_F:z9) (T:Tm) (H:Hp):Option zH:=gc (opnd T m) (opnd T st) (opnd T x) H
def AH (_t:TypeId) (_x:Operand) (_P:Program) (_F:z9) (_T:Tm) (_H:Hp):Option zH:=none
def Co (_i:Operand) (_s:Bool) (_P:Program) (_F:z9) (_T:Tm) (_H:Hp):Option zH:=none
def A5 (_i:Operand) (_P:Program) (_F:z9) (_T:Tm) (_H:Hp):Option zH:=none
def xr (x:Operand) (_xt:TypeId) (asserted:TypeId) (ok:Bool) (P:Program) (_F:z9) (T:Tm) (H:Hp):Option zH:=YA P (opnd T x) asserted ok H
def lO (x:Operand) (n:Nat) (_P:Program) (_F:z9) (T:Tm) (H:Hp):Option zH:=gj (opnd T x) n H
def BT (c:Call) (P:Program) (F:z9) (T:Tm) (H:Hp):Option zH:=Callee.rec (motive:=fun _=>Call→Program→z9→Tm→Hp→Option zH) AI iy AS c.callee c P F T H
def Dm (_c:Call) (_P:Program) (_F:z9) (_T:Tm) (_H:Hp):Option zH:=none
def AD (_c:Call) (_P:Program) (_F:z9) (_T:Tm) (_H:Hp):Option zH:=none
def BG (_x:Operand) (_P:Program) (_F:z9) (_T:Tm) (_H:Hp):Option zH:=none
def CF (_c:Operand) (_x:Operand) (_P:Program) (_F:z9) (_T:Tm) (_H:Hp):Option zH:=none
def Bx (_t:TypeId) (_c:Operand) (_o:Bool) (_P:Program) (_F:z9) (_T:Tm) (_H:Hp):Option zH:=none
def aL (_c:Array SelectCase) (_b:Bool) (_P:Program) (_F:z9) (_T:Tm) (_H:Hp):Option zH:=none
def Zr (P:Program) (F:z9) (T:Tm) (H:Hp) (o:Oper):Option zH:=
 Op.rec (motive:=fun _=>Program→z9→Tm→Hp→Option zH) CO sU CJ Ae DD BD dK aw CH iY AX AW fE Ac Bz r4 Y9 UH ny lZ nn pZ At dV B8 pA Al aN dr nE xT AH Co A5 xr lO BT Dm AD BG CF Bx aL o.op P F T H
theorem jf (P:Program) (F:z9) (T:Tm) (H:Hp) (o:Oper):Zr P F T H o=yJ P F T H o:=by
 obtain⟨dst,op,ty,pos,after,guard⟩:=o
 cases op<;>try rfl
 case call c=>
  obtain⟨callee,args,ats⟩:=c
  cases callee<;>rfl
end
end Go.Px
namespace Go.Px
open Go Go.RowKit
structure qS where
 ρ:Nat→Int
 blk:Nat→Option (Nat×Nat×Nat)
 lim:Nat:=0
def zU.ev (ρ:Nat→Int):zU→Int
 | .lit z=>z
 | .lin a i c=>a*ρ i+c
def CC:Nat→Nat→List UInt8
 |0,_=> []
 |f+1,n=>if n<10 then [UInt8.ofNat (48+n)]else CC f (n/10)++ [UInt8.ofNat (48+n%10)]
def Dl (z:Int):List UInt8:=CC (z.toNat+1) z.toNat
def jV (ρ:Nat→Int):List Nat→List UInt8
 | []=> []
 |n::l=>(if n<256 then [UInt8.ofNat n]else Dl (ρ (n-256)))++jV ρ l
def GG (F:z9) (ρ:Nat→Int):Prop:= ∀(i:Nat) (lo hi:Int),F[i]? =some (lo,hi)→lo≤ρ i∧ρ i≤hi
inductive zL (V:qS):AVal→Value→Prop
 |bool (b:Bool):zL V (.bool b) (.bool b)
 |int (k:IntKind) (s:zU):zL V (.int k s) (.int k (s.ev V.ρ))
 |str (l:List Nat) (s:ByteArray) (h:s.data.toList=jV V.ρ l):zL V (.str l) (.string s)
 |ptrN:zL V (.ptr none) (.pointer none)
 |ptr (id off b base S:Nat) (h:V.blk id=some (b,base,S)):zL V (.ptr (some (id,off))) (.pointer (some ⟨b,base+off,none⟩))
 |sliceN (es:Nat):zL V (.slice none 0 (some 0) es) (.slice none 0 0)
 |slice (id off len:Nat) (cap:Option Nat) (es b base S c:Nat) (h:V.blk id=some (b,base,S)) (hl:len≤c) (hc: ∀k,cap=some k→c=k)
  (hS:off+c*es≤S):zL V (.slice (some (id,off)) len cap es) (.slice (some ⟨b,base+off,none⟩) len c)
 |sliceE (id off es b base S o c:Nat) (cap:Option Nat) (h:V.blk id=some (b,base,S)) (hc: ∀k,cap=some k→k=0∧c=0) (ho:base≤o) (hS:o+c*es≤base+S):
  zL V (.slice (some (id,off)) 0 cap es) (.slice (some ⟨b,o,none⟩) 0 c)
 |sliceR (id off len:Nat) (cap:Option Nat) (es b base S c:Nat) (a:Addr) (h:V.blk id=some (b,base,S)) (hb:b<V.lim) (hl:len≤c) (hc: ∀k,cap=some k→c=k) (ha:(0<len∨ ∃k,cap=some k∧0<k)→a=⟨b,base+off,none⟩):
  zL V (.slice (some (id,off)) len cap es) (.slice (some a) len c)
 |mapN:zL V (.map none) (.map none)
 |map (id b base S:Nat) (h:V.blk id=some (b,base,S)):zL V (.map (some id)) (.map (some b))
 |chanN:zL V (.chan none) (.chan none)
 |chan (id b base S:Nat) (h:V.blk id=some (b,base,S)):zL V (.chan (some id)) (.chan (some b))
 |func (f:FuncId) (a c:List AVal) (x y:Array Value) (ha:a.length=x.size) (hc:c.length=y.size)
  (hx: ∀(i:Nat) u v,a[i]? =some u→x[i]? =some v→zL V u v) (hy: ∀(i:Nat) u v,c[i]? =some u→y[i]? =some v→zL V u v):
  zL V (.func f a c) (.func (.func f) x y)
 |nilFunc:zL V .nilFunc .nilFunc
 |iface (t:TypeId) (v:AVal) (w:Value) (h:zL V v w):zL V (.iface t v) (.iface t w)
 |nilIface:zL V .nilIface .nilIface
 |agg (a:List AVal) (x:Array Value) (ha:a.length=x.size) (hx: ∀(i:Nat) u v,a[i]? =some u→x[i]? =some v→zL V u v)
  (hc: ∀u,u ∈ a→u.isCell=true):zL V (.agg a) (.agg x)
 |tuple (a:List AVal) (x:Array Value) (ha:a.length=x.size) (hx: ∀(i:Nat) u v,a[i]? =some u→x[i]? =some v→zL V u v):zL V (.tuple a) (.tuple x)
inductive yX (V:qS):List AVal→List Value→Prop
 |nil:yX V [] []
 |cons {u v us vs} (h:zL V u v) (t:yX V us vs):yX V (u::us) (v::vs)
theorem yX.length {V:qS} {us:List AVal} {vs:List Value} (h:yX V us vs):us.length=vs.length:=by
 induction h with
 |nil=>rfl
 |cons _ _ ih=>simp [ih]
theorem yX.at {V:qS} {us:List AVal} {vs:List Value} (h:yX V us vs): ∀(i:Nat) u,us[i]? =some u→ ∃v,vs[i]? =some v∧zL V u v:=by
 induction h with
 |nil=>intro i u e;simp at e
 |cons h _ ih=>
  intro i u e
  cases i with
  |zero=>simp at e;subst e;exact⟨_,by simp,h⟩
  |succ i=>simp at e;obtain⟨v,h1,h2⟩:=ih i u e;exact⟨v,by simpa using h1,h2⟩
theorem yX.of {V:qS} : ∀ {us:List AVal} {vs:List Value},us.length=vs.length→(∀(i:Nat) u v,us[i]? =some u→vs[i]? =some v→zL V u v)→yX V us vs:=by
 intro us
 induction us with
 |nil=>intro vs h _;cases vs with
  |nil=>exact .nil
  |cons=>simp at h
 |cons u us ih=>intro vs h hh;cases vs with
  |nil=>simp at h
  |cons v vs=>exact .cons (hh 0 u v (by simp) (by simp)) (ih (by simpa using h) fun i a b ha hb=>hh (i+1) a b (by simpa using ha) (by simpa using hb))
theorem yX.ofArray {V:qS} {us:List AVal} {x:Array Value} (h:us.length=x.size) (hh: ∀(i:Nat) u v,us[i]? =some u→x[i]? =some v→zL V u v):yX V us x.toList:=
 yX.of (by simpa using h) fun i u v hu hv=>hh i u v hu (by simpa using hv)
theorem yX.append {V:qS} {us us':List AVal} {vs vs':List Value} (h:yX V us vs) (h':yX V us' vs'):yX V (us++us') (vs++vs'):=by
 induction h with
 |nil=>exact h'
 |cons h _ ih=>exact .cons h ih
theorem yX.pt {V:qS} {us:List AVal} {vs:List Value} (h:yX V us vs): ∀(i:Nat) u v,us[i]? =some u→vs[i]? =some v→zL V u v:=by
 intro i u v hu hv
 obtain⟨v',h1,h2⟩:=h.at i u hu
 rw [hv]at h1
 cases h1
 exact h2
theorem zL.aggL {V:qS} {us:List AVal} {vs:List Value} (h:yX V us vs) (hc: ∀u,u ∈ us→u.isCell=true):zL V (.agg us) (.agg vs.toArray):=
 .agg us vs.toArray (by simpa using h.length) (fun i u v hu hv=>h.pt i u v hu (by simpa using hv)) hc
theorem zL.tupleL {V:qS} {us:List AVal} {vs:List Value} (h:yX V us vs):zL V (.tuple us) (.tuple vs.toArray):=
 .tuple us vs.toArray (by simpa using h.length) (fun i u v hu hv=>h.pt i u v hu (by simpa using hv))
structure qS.le (V V':qS):Prop where
 ρ:V'.ρ=V.ρ
 blk: ∀id x,V.blk id=some x→V'.blk id=some x
 lim:V'.lim=V.lim
theorem qS.le.refl (V:qS):V.le V:=⟨rfl,fun _ _ h=>h,rfl⟩
theorem qS.le.trans {V V' V'':qS} (h:V.le V') (h':V'.le V''):V.le V'':=⟨h'.ρ.trans h.ρ,fun id x e=>h'.blk id x (h.blk id x e),h'.lim.trans h.lim⟩
theorem zL.mono {V V':qS} (hV:V.le V') {a:AVal} {v:Value} (h:zL V a v):zL V' a v:=by
 induction h with
 |bool b=>exact .bool b
 |int k s=>rw [←hV.ρ];exact .int k s
 |str l s h=>exact .str l s (by rw [hV.ρ];exact h)
 |ptrN=>exact .ptrN
 |ptr id off b base S h=>exact .ptr id off b base S (hV.blk _ _ h)
 |sliceN es=>exact .sliceN es
 |slice id off len cap es b base S c h hl hc hS=>exact .slice id off len cap es b base S c (hV.blk _ _ h) hl hc hS
 |sliceE id off es b base S o c cap h hc ho hS=>exact .sliceE id off es b base S o c cap (hV.blk _ _ h) hc ho hS
 |sliceR id off len cap es b base S c a h hb hl hc ha=>exact .sliceR id off len cap es b base S c a (hV.blk _ _ h) (by rw [hV.lim];exact hb) hl hc ha
 |mapN=>exact .mapN
 |map id b base S h=>exact .map id b base S (hV.blk _ _ h)
 |chanN=>exact .chanN
 |chan id b base S h=>exact .chan id b base S (hV.blk _ _ h)
 |func f a c x y ha hc _ _ ihx ihy=>exact .func f a c x y ha hc ihx ihy
 |nilFunc=>exact .nilFunc
 |iface t v w _ ih=>exact .iface t v w ih
 |nilIface=>exact .nilIface
 |agg a x ha _ hc ih=>exact .agg a x ha ih hc
 |tuple a x ha _ ih=>exact .tuple a x ha ih
theorem yX.mono {V V':qS} (hV:V.le V') {us:List AVal} {vs:List Value} (h:yX V us vs):yX V' us vs:=by
 induction h with
 |nil=>exact .nil
 |cons h _ ih=>exact .cons (h.mono hV) ih
theorem zL.cells {V:qS} {a:AVal} {v:Value} (h:zL V a v):yX V a.cells v.cells.toList:=by
 cases h<;>first
  |(refine yX.ofArray ?_ ?_<;>assumption)
  |(refine .cons ?_ .nil;constructor<;>assumption)
theorem zL.cells_size {V:qS} {a:AVal} {v:Value} (h:zL V a v):v.cells.size=a.cells.length:=by
 have:=h.cells.length
 simpa using this.symm
def Value.isCell:Value→Bool
 | .agg _=>false
 | .tuple _=>false
 |_=>true
theorem zL.isCell {V:qS} {a:AVal} {v:Value} (h:zL V a v):Value.isCell v=a.isCell:=by cases h<;>rfl
structure AG (V:qS) (e:vD) (m:MapEntry):Prop where
 key:zL V e.key m.key
 val:zL V e.val m.val
 born:m.born=e.born
inductive Zd (V:qS) (B:Nat):uj→Nat→Nat→Nat→Obj→Prop
 |cells (rw:Bool) (c:Tr AVal) (n b base S:Nat) (arr:Array Value) (el:TypeId) (fz:Nat×Nat) (hrw:rw=true→fz=(0,0)∧B≤b) (hfz:B≤b→fz=(0,0))
  (hS:rw=true→base+S≤arr.size) (hn:n≤S) (hall:rw=true→ ∀i,i<n→ ∃a,c.get i=some a)
  (hc: ∀i a,c.get i=some a→i<n∧a.isCell=true∧ ∃v,arr[base+i]? =some v∧zL V a v):Zd V B (.cells rw c n) b base S (.cells arr el fz)
 |map (es:List vD) (clock b base S:Nat) (ms:Array MapEntry) (hB:B≤b) (hl:es.length=ms.size)
  (he: ∀(i:Nat) e m,es[i]? =some e→ms[i]? =some m→AG V e m):Zd V B (.map es clock) b base S (.map ms clock)
 |chan (cap:Nat) (buf:List AVal) (s r b base S:Nat) (x:Array Value) (hB:B≤b) (hx:yX V buf x.toList):Zd V B (.chan cap buf s r) b base S (.chan cap x false s r false)
theorem Zd.mono {V V':qS} (hV:V.le V') {B:Nat} {o:uj} {b base S:Nat} {obj:Obj} (h:Zd V B o b base S obj):Zd V' B o b base S obj:=by
 cases h with
 |cells rw c n b base S arr el fz hrw hfz hS hn hall hc=>
  exact .cells rw c n b base S arr el fz hrw hfz hS hn hall fun i a h=>let ⟨h1,h2,v,h3,h4⟩:=hc i a h;⟨h1,h2,v,h3,h4.mono hV⟩
 |map es clock b base S ms hB hl he=>exact .map es clock b base S ms hB hl fun i e m h1 h2=>let ⟨a,c,d⟩:=he i e m h1 h2;⟨a.mono hV,c.mono hV,d⟩
 |chan cap buf s r b base S x hB hx=>exact .chan cap buf s r b base S x hB (hx.mono hV)
structure zt (B:Nat) (w0:World) (V:qS) (H:Hp) (w:World):Prop where
 below:Below B w0 w
 size:B≤w.heap.size
 next: ∀id,H.next≤id→V.blk id=none∧H.t.get id=none
 lt: ∀id b base S,V.blk id=some (b,base,S)→b<w.heap.size
 obj: ∀id o b base S,H.t.get id=some o→V.blk id=some (b,base,S)→ ∃x,w.heap[b]? =some x∧Zd V B o b base S x
 inj: ∀id id' o o' b b' base base' S S',H.t.get id=some o→H.t.get id'=some o'→V.blk id=some (b,base,S)→V.blk id'=some (b',base',S')→id≠id'→b≠b'∨b<B
 fz: ∀b arr el z,B≤b→w.heap[b]? =some (.cells arr el z)→z=(0,0)
 lim:V.lim≤B
def ga (V:qS) (T:Tm) (tmps:Array Value):Prop:= ∀i a,Tm.get i T=some a→ ∃v,tmps[i]? =some v∧zL V a v
theorem ga.mono {V V':qS} (hV:V.le V') {T:Tm} {x:Array Value} (h:ga V T x):ga V' T x:=
 fun i a e=>let ⟨v,h1,h2⟩:=h i a e;⟨v,h1,h2.mono hV⟩
theorem ga.put {V:qS} {T:Tm} {x:Array Value} (h:ga V T x) {d:Nat} {a:AVal} {v:Value} (hv:zL V a v) (hd:d<x.size):ga V (Tm.put d a T) (x.setIfInBounds d v):=by
 intro i b e
 rcases Tm.get_put d i a T b e with⟨rfl,rfl⟩|⟨hne,e⟩
 ·exact⟨v,by simp [hd],hv⟩
 obtain⟨u,h1,h2⟩:=h i b e
 exact⟨u,by rw [Array.getElem?_setIfInBounds_ne (Ne.symm hne)];exact h1,h2⟩
theorem uk (V:qS):zL V unit undef:= .tuple [] #[] rfl (fun i u v h=>by simp at h)
theorem dF {V:qS} {n:Nat} (ih: ∀(v:Value) (a:AVal),wv n v=some a→zL V a v):
 ∀(l:List Value) (as:List AVal),l.mapM (wv n)=some as→yX V as l:=by
 intro l
 induction l with
 |nil=>intro as h;simp at h;subst h;exact .nil
 |cons v l ihl=>
  intro as h
  rw [List.mapM_cons]at h
  cases h1:wv n v with
  |none=>rw [h1]at h;cases h
  |some a=>
   cases h2:l.mapM (wv n)with
   |none=>rw [h1,h2]at h;cases h
   |some as'=>
    rw [h1,h2]at h
    cases h
    exact .cons (ih v a h1) (ihl as' h2)
theorem xM (ρ:Nat→Int) (l:List UInt8):jV ρ (l.map UInt8.toNat)=l:=by
 induction l with
 |nil=>rfl
 |cons b l ih=>
  have hb:b.toNat<256:=b.toNat_lt
  simp only [List.map_cons,jV,if_pos hb,ih,UInt8.ofNat_toNat,List.cons_append,List.nil_append]
theorem gg (V:qS): ∀(n:Nat) (v:Value) (a:AVal),wv n v=some a→zL V a v:=by
 intro n
 induction n with
 |zero=>intro v a h;cases h
 |succ n ih=>
  intro v a h
  unfold wv at h
  split at h<;>try (cases h;done)
  ·cases h;exact .bool _
  ·cases h;exact .int _ (.lit _)
  ·cases h;exact .str _ _ (xM _ _).symm
  ·cases h;exact .ptrN
  ·cases h;exact .sliceN 0
  ·cases h;exact .mapN
  ·cases h;exact .chanN
  ·rename_i f x y
   split at h<;>try (cases h;done)
   rename_i hx hy
   cases h
   have ex:x= #[]:=by cases x;simp at hx;simp [hx]
   have ey:y= #[]:=by cases y;simp at hy;simp [hy]
   subst ex ey
   exact .func f [] [] #[] #[] rfl rfl (fun i u v h=>by simp at h) (fun i u v h=>by simp at h)
  ·cases h;exact .nilFunc
  ·cases h;exact .nilIface
  ·rename_i cs
   cases hm:cs.toList.mapM (wv n)with
   |none=>rw [hm]at h;cases h
   |some as=>
    rw [hm]at h
    cases hc:yL as with
    |false=>simp only [hc,cond_false]at h;cases h
    |true=>
     simp only [hc,cond_true]at h
     cases h
     have hl:=dF ih _ _ hm
     exact .agg as cs (by simpa using hl.length) (fun i u v hu hv=>hl.pt i u v hu (by simpa using hv)) ((wL as).1 hc)
  rename_i cs
  cases hm:cs.toList.mapM (wv n)with
  |none=>rw [hm]at h;cases h
  |some as=>
   rw [hm]at h
   cases h
   have hl:=dF ih _ _ hm
   exact .tuple as cs (by simpa using hl.length) (fun i u v hu hv=>hl.pt i u v hu (by simpa using hv))
theorem be {V:qS} {T:Tm} {a:Act} (hT:ga V T a.tmps) {x:Operand} {v:AVal} (h:opnd T x=some v):zL V v (a.eval x):=by
 cases x with
 |tmp t=>
  obtain⟨u,h1,h2⟩:=hT t v h
  simp only [Act.eval,Array.getD_eq_getD_getElem?,h1]
  exact h2
 |const c=>exact gg V 4 c v h
 |global g=>cases h
 |func f=>cases h;exact .func f [] [] #[] #[] rfl rfl (fun i u v h=>by simp at h) (fun i u v h=>by simp at h)
def J5 (V:qS) (T:Tm) (a:Act) (l:Array Operand):Prop:= ∀x,x ∈ l→ ∀v,opnd T x=some v→zL V v (a.eval x)
theorem ga.looks {V:qS} {T:Tm} {a:Act} (hT:ga V T a.tmps) (l:Array Operand):J5 V T a l:=fun _ _ _ h=>be hT h
theorem jv {V:qS} {T:Tm} {a:Act} : ∀ {l:List Operand} {vs:List AVal},(∀x,x ∈ l→ ∀v,opnd T x=some v→zL V v (a.eval x))→qf T l=some vs→yX V vs (l.map a.eval):=by
 intro l
 induction l with
 |nil=>intro vs _ h;cases h;exact .nil
 |cons x xs ih=>
  intro vs hl h
  simp only [qf]at h
  cases h1:opnd T x with
  |none=>rw [h1]at h;cases h
  |some v=>
   rw [h1]at h
   cases h2:qf T xs with
   |none=>rw [h2]at h;cases h
   |some us=>rw [h2]at h;cases h;exact .cons (hl x (by simp) v h1) (ih (fun y hy=>hl y (by simp [hy])) h2)
end Go.Px
section
namespace Go.Px
open Go Go.RowKit
variable {P:Program} {F:z9} {V:qS} {B:Nat} {w0 w:World} {H:Hp}
theorem wW (b o n:Nat):(⟨b,o,none⟩:Addr).add n=⟨b,o+n,none⟩:=Addr.add_lit b o n
theorem Wr (hW:zt B w0 V H w) {i off b base S:Nat} {a:AVal} (hb:V.blk i=some (b,base,S)) (h:H.read1 i off=some a):
 ∃v,w.cell? ⟨b,base+off,none⟩=some v∧zL V a v∧a.isCell=true:=by
 unfold Hp.read1 at h
 split at h
 ·rename_i rw c n ho
  obtain⟨x,hx,hr⟩:=hW.obj i _ b base S ho hb
  cases hr with
  |cells _ _ _ _ _ _ arr el fz hrw hfz hS hn hall hc=>
   obtain⟨h1,h2,v,h3,h4⟩:=hc off a h
   exact⟨v,by simp [World.cell?,hx,h3],h4,h2⟩
 cases h
theorem Q5 (c:Tr AVal) (i n:Nat):gN c i (n+1)=(match c.get i with
 |none=>none
 |some v=>match gN c (i+1) n with
  |none=>none
  |some vs=>some (v::vs)):=by
 show Option.rec (motive:=fun _=>Option (List AVal)) none (fun v=>Option.rec (motive:=fun _=>Option (List AVal)) none (fun vs=>some (v::vs)) (gN c (i+1) n)) (c.get i)=_
 cases c.get i with
 |none=>rfl
 |some v=>cases gN c (i+1) n<;>rfl
theorem GR (c:Tr AVal): ∀(n i:Nat) (vs:List AVal),gN c i n=some vs→vs.length=n∧ ∀(j:Nat) v,vs[j]? =some v→c.get (i+j)=some v:=by
 intro n
 induction n with
 |zero=>intro i vs h;have:some ([]:List AVal)=some vs:=h;cases this;exact⟨rfl,fun j v h=>by simp at h⟩
 |succ n ih=>
  intro i vs h
  rw [Q5]at h
  cases h1:c.get i with
  |none=>rw [h1]at h;cases h
  |some v=>
   rw [h1]at h
   cases h2:gN c (i+1) n with
   |none=>rw [h2]at h;cases h
   |some us=>
    rw [h2]at h
    cases h
    obtain⟨h3,h4⟩:=ih (i+1) us h2
    refine⟨by simp [h3],fun j u hu=> ?_⟩
    cases j with
    |zero=>simp at hu;subst hu;exact h1
    |succ j=>simp at hu;rw [show i+(j+1)=i+1+j by omega];exact h4 j u hu
theorem Z9 (hW:zt B w0 V H w) {i off b base S n:Nat} {as:List AVal} (hb:V.blk i=some (b,base,S)) (h:H.read i off n=some as):
 as.length=n∧(∀u,u ∈ as→u.isCell=true)∧ ∃vs,yX V as vs∧ ∀j v,vs[j]? =some v→w.cell? ((⟨b,base+off,none⟩:Addr).add j)=some v:=by
 unfold Hp.read at h
 split at h
 ·rename_i rw c m ho
  obtain⟨x,hx,hr⟩:=hW.obj i _ b base S ho hb
  cases hr with
  |cells _ _ _ _ _ _ arr el fz hrw hfz hS hn hall hc=>
   obtain⟨hl,hg⟩:=GR c n off as h
   refine⟨hl,fun u hu=> ?_,?_⟩
   ·obtain⟨j,hj⟩:=List.mem_iff_getElem?.1 hu
    exact(hc _ _ (hg j u hj)).2.1
   refine⟨(List.range n).map fun j=>arr.getD (base+(off+j)) undef,?_,?_⟩
   ·refine yX.of (by simp [hl]) fun j u v hu hv=> ?_
    obtain⟨_,_,v',h3,h4⟩:=hc _ _ (hg j u hu)
    have hj:j<n:=by have:=(List.getElem?_eq_some_iff.1 hu).1;omega
    simp [hj]at hv
    rw [h3]at hv
    simp at hv
    subst hv
    exact h4
   intro j v hv
   rw [wW]
   by_cases hj:j<n
   ·simp [hj]at hv
    obtain⟨a,ha⟩: ∃a,as[j]? =some a:=⟨as[j]'(by omega),List.getElem?_eq_getElem (by omega)⟩
    obtain⟨_,_,v',h3,h4⟩:=hc _ _ (hg j a ha)
    rw [h3]at hv
    simp at hv
    subst hv
    simp [World.cell?,hx,Nat.add_assoc,h3]
   simp [hj]at hv
 cases h
def qS.bind (V:qS) (id:Nat) (x:Nat×Nat×Nat):qS:=⟨V.ρ,fun i=>if i=id then some x else V.blk i,V.lim⟩
theorem qS.bind_le {i:Nat} (hn:V.blk i=none) (x:Nat×Nat×Nat):V.le (V.bind i x):=
 ⟨rfl,fun id y h=>by
  have:id≠i:=fun e=>by rw [e,hn]at h;cases h
  simp [qS.bind,this,h],rfl⟩
theorem zt.bind_le (hW:zt B w0 V H w) (x:Nat×Nat×Nat):V.le (V.bind H.next x):=qS.bind_le (hW.next _ (Nat.le_refl _)).1 x
theorem Q3 (w:World) (x:Obj) (k:Nat) (h:k<w.heap.size):(w.alloc x).heap[k]? =w.heap[k]? :=Below.heap_alloc w x k h
theorem uv (w:World) (x:Obj):(w.alloc x).heap[w.heap.size]? =some x:=by show(w.heap.push x)[w.heap.size]? =_;simp
theorem Q2 (w:World) (x:Obj) (k:Nat) (h:k≠w.heap.size):(w.alloc x).heap[k]? =w.heap[k]? :=by
 show(w.heap.push x)[k]? =_
 rw [Array.getElem?_push,if_neg h]
theorem Vu {w':World} {b base S:Nat} {o:uj} {x':Obj} (hf: ∀b arr el z,B≤b→w.heap[b]? =some (.cells arr el z)→z=(0,0)) (hother: ∀k,k≠b→w'.heap[k]? =w.heap[k]?)
 (hx:w'.heap[b]? =some x') (hr:Zd V B o b base S x'): ∀b arr el z,B≤b→w'.heap[b]? =some (.cells arr el z)→z=(0,0):=by
 intro b' arr el z hB h
 by_cases e:b'=b
 ·subst e
  rw [hx]at h
  cases h
  cases hr with
  |cells _ _ _ _ _ _ _ _ _ _ hfz=>exact hfz hB
 rw [hother b' e]at h
 exact hf b' arr el z hB h
theorem zt.alloc (hW:zt B w0 V H w) {o:uj} {x:Obj} {base S:Nat} (ho:Zd V B o w.heap.size base S x):
 zt B w0 (V.bind H.next (w.heap.size,base,S)) (H.alloc o) (w.alloc x):=by
 have hle:=hW.bind_le (w.heap.size,base,S)
 have old: ∀id b base' S',(V.bind H.next (w.heap.size,base,S)).blk id=some (b,base',S')→(id=H.next∧b=w.heap.size∧base'=base∧S'=S)∨(id≠H.next∧V.blk id=some (b,base',S')∧b<w.heap.size):=by
  intro id b base' S' h
  by_cases e:id=H.next
  ·subst e;simp [qS.bind]at h;exact .inl ⟨rfl,h.1.symm,h.2.1.symm,h.2.2.symm⟩
  simp [qS.bind,e]at h;exact .inr ⟨e,h,hW.lt _ _ _ _ h⟩
 have oldo: ∀id o',(H.alloc o).t.get id=some o'→(id=H.next∧o'=o)∨(id≠H.next∧H.t.get id=some o'):=by
  intro id o' h
  simp only [Hp.alloc,Tr.get_set]at h
  by_cases e:id=H.next
  ·subst e;simp at h;exact .inl ⟨rfl,h.symm⟩
  rw [if_neg e]at h;exact .inr ⟨e,h⟩
 refine⟨hW.below.alloc hW.size x,by simp;have:=hW.size;omega,?_,?_,?_,?_,Vu hW.fz (fun k hk=>Q2 w x k hk) (uv w x) ho,hW.lim⟩
 ·intro id hid
  have hid':H.next+1≤id:=hid
  have h1:=hW.next id (by omega)
  exact⟨by simp [qS.bind,show id≠H.next by omega,h1.1],by simp only [Hp.alloc,Tr.get_set];rw [if_neg (by omega)];exact h1.2⟩
 ·intro id b base' S' h
  rcases old id b base' S' h with⟨_,rfl,_⟩|⟨_,_,h⟩<;>simp<;>omega
 ·intro id o' b base' S' h1 h2
  rcases old id b base' S' h2 with⟨rfl,rfl,rfl,rfl⟩|⟨hne,h2',hlt⟩
  ·rcases oldo _ _ h1 with⟨_,rfl⟩|⟨hne,_⟩
   ·exact⟨x,uv w x,ho.mono hle⟩
   exact absurd rfl hne
  rcases oldo _ _ h1 with⟨rfl,_⟩|⟨_,h1'⟩
  ·exact absurd rfl hne
  obtain⟨y,hy,hr⟩:=hW.obj id o' b base' S' h1' h2'
  exact⟨y,by rw [Q3 w x b hlt];exact hy,hr.mono hle⟩
 intro id id' o1 o2 b b' base1 base2 S1 S2 h1 h2 h3 h4 hne
 rcases old _ _ _ _ h3 with⟨rfl,rfl,_⟩|⟨hn1,h3',hlt1⟩<;>rcases old _ _ _ _ h4 with⟨rfl,rfl,_⟩|⟨hn2,h4',hlt2⟩
 ·exact absurd rfl hne
 ·exact .inl (by omega)
 ·exact .inl (by omega)
 rcases oldo _ _ h1 with⟨e,_⟩|⟨_,h1'⟩
 ·exact absurd e hn1
 rcases oldo _ _ h2 with⟨e,_⟩|⟨_,h2'⟩
 ·exact absurd e hn2
 exact hW.inj id id' o1 o2 b b' base1 base2 S1 S2 h1' h2' h3' h4' hne
theorem qS.bind_at (V:qS) (id:Nat) (x:Nat×Nat×Nat):(V.bind id x).blk id=some x:=by simp [qS.bind]
theorem jL {as:List AVal} {vs:List Value} (h:yX V as vs) (hc: ∀u,u ∈ as→u.isCell=true) (b S:Nat) (el:TypeId) (rest:List Value) (hB:B≤b)
 (hS:S=as.length+rest.length):Zd V B (newRow as) b 0 S (.cells (vs++rest).toArray el):=by
 have hl:=h.length
 refine .cells true _ _ b 0 S _ el (0,0) (fun _=>⟨rfl,hB⟩) (fun _=>rfl) (fun _=>by simp [hS,hl]) (by omega) (fun _ i hi=> ?_) (fun i a ha=> ?_)
 ·rw [Tr.get_ofList,if_pos (by omega)]
  exact⟨as[i]'hi,by simp [hi]⟩
 rw [Tr.get_ofList]at ha
 split at ha
 ·rename_i hi
  have ha':as[i]? =some a:=by simpa using ha
  obtain⟨v,h1,h2⟩:=h.at i a ha'
  have hlt:i<vs.length:=(List.getElem?_eq_some_iff.1 h1).1
  exact⟨by omega,hc a (List.mem_of_getElem? ha'),v,by simp [List.getElem?_append_left hlt,h1],h2⟩
 rw [Tr.get_nil]at ha;cases ha
theorem zt.put (hW:zt B w0 V H w) {w':World} {id b base S:Nat} {o o':uj} {x':Obj} (hb:V.blk id=some (b,base,S)) (ho:H.t.get id=some o)
 (hbel:Below B w w') (hsz:w'.heap.size=w.heap.size) (hother: ∀k,k≠b→w'.heap[k]? =w.heap[k]?) (hx:w'.heap[b]? =some x') (hr:Zd V B o' b base S x'):
 zt B w0 V (H.put id o') w':=by
 have oldo: ∀i q,(H.put id o').t.get i=some q→(i=id∧q=o')∨(i≠id∧H.t.get i=some q):=by
  intro i q h
  simp only [Hp.put,Tr.get_set]at h
  by_cases e:i=id
  ·subst e;simp at h;exact .inl ⟨rfl,h.symm⟩
  rw [if_neg e]at h;exact .inr ⟨e,h⟩
 have some': ∀i q,(H.put id o').t.get i=some q→ ∃q',H.t.get i=some q':=by
  intro i q h
  rcases oldo i q h with⟨rfl,_⟩|⟨_,h⟩
  ·exact⟨o,ho⟩
  exact⟨q,h⟩
 refine⟨hW.below.trans hbel,by rw [hsz];exact hW.size,?_,fun i b' ba S' h=>by rw [hsz];exact hW.lt i b' ba S' h,?_,?_,Vu hW.fz hother hx hr,hW.lim⟩
 ·intro i hi
  have h1:=hW.next i hi
  refine⟨h1.1,?_⟩
  simp only [Hp.put,Tr.get_set]
  by_cases e:i=id
  ·subst e;rw [h1.1]at hb;cases hb
  rw [if_neg e];exact h1.2
 ·intro i q b' ba S' h1 h2
  rcases oldo i q h1 with⟨rfl,rfl⟩|⟨hne,h1'⟩
  ·rw [hb]at h2;cases h2
   exact⟨x',hx,hr⟩
  obtain⟨y,hy,hyr⟩:=hW.obj i q b' ba S' h1' h2
  exact⟨y,by
   rcases hW.inj i id q o b' b ba base S' S h1' ho h2 hb hne with hn|hn
   ·rw [hother b' hn];exact hy
   rw [hbel.block b' hn];exact hy,hyr⟩
 intro i j q1 q2 b1 b2 a1 a2 S1 S2 h1 h2 h3 h4 hne
 obtain⟨q1',h1'⟩:=some' i q1 h1
 obtain⟨q2',h2'⟩:=some' j q2 h2
 exact hW.inj i j q1' q2' b1 b2 a1 a2 S1 S2 h1' h2' h3 h4 hne
structure gX (V V':qS) (H H':Hp):Prop where
 le:V.le V'
 old: ∀id,id<H.next→V'.blk id=V.blk id
 next:H.next≤H'.next
 ghost: ∀id,id<H.next→V.blk id=none→H'.t.get id=H.t.get id
theorem gX.refl (V:qS) (H:Hp):gX V V H H:=⟨.refl V,fun _ _=>rfl,Nat.le_refl _,fun _ _ _=>rfl⟩
theorem gX.trans {V V' V'':qS} {H H' H'':Hp} (h:gX V V' H H') (h':gX V' V'' H' H''):gX V V'' H H'':=
 ⟨h.le.trans h'.le,fun id hi=>by rw [h'.old id (Nat.lt_of_lt_of_le hi h.next),h.old id hi],Nat.le_trans h.next h'.next,
  fun id hi hn=>by rw [h'.ghost id (Nat.lt_of_lt_of_le hi h.next) (by rw [h.old id hi];exact hn),h.ghost id hi hn]⟩
theorem gX.put {i:Nat} {x:Nat×Nat×Nat} (hb:V.blk i=some x) (o:uj):gX V V H (H.put i o):=
 ⟨.refl V,fun _ _=>rfl,Nat.le_refl _,fun id _ hn=>by
  simp only [Hp.put,Tr.get_set]
  rw [if_neg (fun e=>by subst e;rw [hb]at hn;cases hn)]⟩
theorem zt.extAlloc (hW:zt B w0 V H w) (o:uj) (x:Nat×Nat×Nat):gX V (V.bind H.next x) H (H.alloc o):=
 ⟨hW.bind_le x,fun id hi=>by simp [qS.bind,show id≠H.next by omega],Nat.le_succ _,fun id hi _=>by
  simp only [Hp.alloc,Tr.get_set];rw [if_neg (by omega)]⟩
theorem gX.del {i:Nat} {x:Nat×Nat×Nat} (hb:V.blk i=some x):gX V V H ⟨H.t.del i,H.next⟩:=
 ⟨.refl V,fun _ _=>rfl,Nat.le_refl _,fun id _ hn=>by
  show(H.t.del i).get id=_
  rw [Tr.get_del,if_neg (fun e=>by subst e;rw [hb]at hn;cases hn)]⟩
theorem zt.putE (hW:zt B w0 V H w) {w':World} {id b base S:Nat} {o o':uj} {x':Obj} (hb:V.blk id=some (b,base,S)) (ho:H.t.get id=some o)
 (hbel:Below B w w') (hsz:w'.heap.size=w.heap.size) (hother: ∀k,k≠b→w'.heap[k]? =w.heap[k]?) (hx:w'.heap[b]? =some x') (hr:Zd V B o' b base S x'):
 zt B w0 V (H.put id o') w'∧gX V V H (H.put id o'):=⟨hW.put hb ho hbel hsz hother hx hr,.put hb o'⟩
theorem gf (w:World) (b k:Nat) (arr:Array Value) (h:k≠b):(w.setRow b arr).heap[k]? =w.heap[k]? :=by
 simp only [World.setRow,Array.getElem?_modify]
 rw [if_neg (Ne.symm h)]
end Go.Px
end
namespace Go.Px
open Go Go.RowKit
theorem ZY (a b:Int):G2 a b=true↔a<b:=by
 cases a with
 |ofNat m=>cases b with
  |ofNat n=>show Nat.blt m n=true↔_;rw [Nat.blt_eq];exact Int.ofNat_lt.symm
  |negSucc n=>exact⟨fun h=>absurd h Bool.false_ne_true,fun h=>absurd h (by have:=Int.negSucc_lt_zero n;have:=Int.natCast_nonneg m;show¬((m:Int)<_);omega)⟩
 |negSucc m=>cases b with
  |ofNat n=>exact⟨fun _=>by have:=Int.negSucc_lt_zero m;have:=Int.natCast_nonneg n;show _<(n:Int);omega,fun _=>rfl⟩
  |negSucc n=>show Nat.blt n m=true↔_;rw [Nat.blt_eq,Int.negSucc_eq,Int.negSucc_eq];omega
theorem gy (a b:Int):G2 a b=false↔b≤a:=by
 cases h:G2 a b with
 |true=>have:=(ZY a b).1 h;constructor<;>intro h'<;>first|cases h'|omega
 |false=>
  refine⟨fun _=> ?_,fun _=>rfl⟩
  by_cases hh:a<b
  ·rw [(ZY a b).2 hh]at h;cases h
  omega
theorem gL (a b:Int):gD a b=true↔a=b:=by
 cases a with
 |ofNat m=>cases b with
  |ofNat n=>show Nat.beq m n=true↔_;rw [Nat.beq_eq];exact⟨fun h=>by rw [h],fun h=>Int.ofNat.inj h⟩
  |negSucc n=>exact⟨fun h=>absurd h Bool.false_ne_true,fun h=>by cases h⟩
 |negSucc m=>cases b with
  |ofNat n=>exact⟨fun h=>absurd h Bool.false_ne_true,fun h=>by cases h⟩
  |negSucc n=>show Nat.beq m n=true↔_;rw [Nat.beq_eq];exact⟨fun h=>by rw [h],fun h=>Int.negSucc.inj h⟩
theorem wh (a b:Int):gD a b=decide (a=b):=by
 rw [Bool.eq_iff_iff,gL,decide_eq_true_eq]
theorem ZQ (a b:Int):G2 a b=decide (a<b):=by
 rw [Bool.eq_iff_iff,ZY,decide_eq_true_eq]
theorem wq (k:IntKind) (z:Int):QN k z=true↔Qs k≤z∧z≤gR k:=by
 unfold QN
 rw [ZQ,ZQ]
 by_cases h1:z<Qs k
 ·rw [decide_eq_true h1];exact⟨fun h=>absurd h Bool.false_ne_true,fun h=>by omega⟩
 rw [decide_eq_false h1]
 by_cases h2:gR k<z
 ·rw [decide_eq_true h2];exact⟨fun h=>absurd h Bool.false_ne_true,fun h=>by omega⟩
 rw [decide_eq_false h2];exact⟨fun _=>by omega,fun _=>rfl⟩
theorem uy {k:IntKind} {z:Int} (h:QN k z=true):k.wrap z=z:=by
 have h:=(wq k z).1 h
 have hs: ∀(m M:Int) (c:Prop) [Decidable c],(c↔m≤z%M)→M=2*m→0<m→ -m≤z→z<m→(if c then z%M-M else z%M)=z:=by
  intro m M c _ hc hM hm h1 h2
  subst hM
  by_cases hz:0≤z
  ·have:z%(2*m)=z:=Int.emod_eq_of_lt hz (by omega)
   rw [this]at hc ⊢
   rw [if_neg (by rw [hc];omega)]
  have:z%(2*m)=z+2*m:=by
   rw [←Int.add_emod_right]
   exact Int.emod_eq_of_lt (by omega) (by omega)
  rw [this]at hc ⊢
  rw [if_pos (by rw [hc];omega)]
  omega
 have hu: ∀(M:Int),0≤z→z<M→z%M=z:=fun M h1 h2=>Int.emod_eq_of_lt h1 h2
 cases k<;>simp only [Qs,gR]at h<;>simp only [IntKind.wrap,IntKind.bits,IntKind.signed,Bool.true_and,Bool.false_and,Bool.false_eq_true,if_false]<;>
  first
   |(refine hu _ h.1 ?_;simp only [Int.reducePow];omega)
   |(refine hs (2^7) _ _ (by simp) (by decide) (by decide) ?_ ?_<;>simp only [Int.reducePow]<;>omega)
   |(refine hs (2^15) _ _ (by simp) (by decide) (by decide) ?_ ?_<;>simp only [Int.reducePow]<;>omega)
   |(refine hs (2^31) _ _ (by simp) (by decide) (by decide) ?_ ?_<;>simp only [Int.reducePow]<;>omega)
   |(refine hs (2^63) _ _ (by simp) (by decide) (by decide) ?_ ?_<;>simp only [Int.reducePow]<;>omega)
theorem zU.mk_ev (ρ:Nat→Int) (a:Int) (i:Nat) (c:Int):(zU.mk a i c).ev ρ=a*ρ i+c:=by
 unfold zU.mk
 cases h:gD a 0 with
 |true=>have:=(gL _ _).1 h;subst this;simp [zU.ev]
 |false=>rfl
theorem zU.add_ev {ρ:Nat→Int} {x y r:zU} (h:x.add y=some r):r.ev ρ=x.ev ρ+y.ev ρ:=by
 cases x<;>cases y<;>simp only [zU.add]at h
 ·cases h;rfl
 ·cases h;simp only [zU.ev];omega
 ·cases h;simp only [zU.ev];omega
 rename_i a i c b j d
 cases e:Nat.beq i j with
 |false=>rw [e]at h;cases h
 |true=>
  have:=Nat.eq_of_beq_eq_true e
  subst this
  simp only [e,cond_true,Option.some.injEq]at h
  subst h
  rw [zU.mk_ev]
  simp only [zU.ev,Int.add_mul]
  omega
theorem zU.sub_ev {ρ:Nat→Int} {x y r:zU} (h:x.sub y=some r):r.ev ρ=x.ev ρ-y.ev ρ:=by
 cases x<;>cases y<;>simp only [zU.sub]at h
 ·cases h;rfl
 ·cases h;simp only [zU.ev,Int.neg_mul];omega
 ·cases h;simp only [zU.ev];omega
 rename_i a i c b j d
 cases e:Nat.beq i j with
 |false=>rw [e]at h;cases h
 |true=>
  have:=Nat.eq_of_beq_eq_true e
  subst this
  simp only [e,cond_true,Option.some.injEq]at h
  subst h
  rw [zU.mk_ev]
  simp only [zU.ev,Int.sub_mul]
  omega
theorem zU.mul_ev {ρ:Nat→Int} {x y r:zU} (h:x.mul y=some r):r.ev ρ=x.ev ρ*y.ev ρ:=by
 cases x<;>cases y<;>simp only [zU.mul]at h
 ·cases h;rfl
 ·cases h;rw [zU.mk_ev];simp only [zU.ev,Int.mul_add,Int.mul_assoc]
 ·cases h;rw [zU.mk_ev];simp only [zU.ev,Int.add_mul];rw [Int.mul_assoc,Int.mul_comm _ (ρ _),←Int.mul_assoc,Int.mul_right_comm]
 cases h
theorem zU.span_ev {F:z9} {ρ:Nat→Int} (hF:GG F ρ) {x:zU} {lo hi:Int} (h:x.span F=some (lo,hi)):lo≤x.ev ρ∧x.ev ρ≤hi:=by
 cases x with
 |lit z=>cases h;exact⟨Int.le_refl _,Int.le_refl _⟩
 |lin a i c=>
  simp only [zU.span]at h
  split at h
  ·cases h
  rename_i l u hf
  obtain⟨h1,h2⟩:=hF i l u hf
  simp only [zU.ev]
  cases e:G2 a 0 with
  |true=>
   have ha:=(ZY _ _).1 e
   simp only [e,cond_true,Option.some.injEq,Prod.mk.injEq]at h
   obtain⟨rfl,rfl⟩:=h
   have m1:=Int.mul_le_mul_of_nonpos_left (a:=a) (b:=u) (c:=ρ i) (by omega) h2
   have m2:=Int.mul_le_mul_of_nonpos_left (a:=a) (b:=ρ i) (c:=l) (by omega) h1
   omega
  |false=>
   have ha:=(gy _ _).1 e
   simp only [e,cond_false,Option.some.injEq,Prod.mk.injEq]at h
   obtain⟨rfl,rfl⟩:=h
   have m1:=Int.mul_le_mul_of_nonneg_left h1 ha
   have m2:=Int.mul_le_mul_of_nonneg_left h2 ha
   omega
theorem zU.lt_ev {F:z9} {ρ:Nat→Int} (hF:GG F ρ) {x y:zU} {b:Bool} (h:zU.lt F x y=some b):b=decide (x.ev ρ<y.ev ρ):=by
 have gen: ∀(d:zU),x.sub y=some d→(match d.span F with
  |none=>none
  |some (lo,hi)=>bif G2 hi 0 then some true else bif G2 lo 0 then none else some false)=some b→b=decide (x.ev ρ<y.ev ρ):=by
  intro d hd h
  have e:=zU.sub_ev (ρ:=ρ) hd
  cases hs:d.span F with
  |none=>rw [hs]at h;cases h
  |some p=>
   obtain⟨lo,hi⟩:=p
   obtain⟨h1,h2⟩:=zU.span_ev hF hs
   rw [hs]at h
   cases e1:G2 hi 0 with
   |true=>
    have:=(ZY _ _).1 e1
    simp only [e1,cond_true,Option.some.injEq]at h
    subst h
    exact(decide_eq_true (by omega)).symm
   |false=>
    cases e2:G2 lo 0 with
    |true=>simp only [e1,e2,cond_true,cond_false]at h;cases h
    |false=>
     have:=(gy _ _).1 e2
     simp only [e1,e2,cond_false,Option.some.injEq]at h
     subst h
     exact(decide_eq_false (by omega)).symm
 unfold zU.lt at h
 split at h
 ·cases h;rw [ZQ];rfl
 split at h
 ·cases h
 rename_i d hd
 exact gen d hd h
theorem zU.eq_ev {F:z9} {ρ:Nat→Int} (hF:GG F ρ) {x y:zU} {b:Bool} (h:zU.eq F x y=some b):b=decide (x.ev ρ=y.ev ρ):=by
 unfold zU.eq at h
 split at h
 ·cases h;rw [wh];rfl
 split at h
 ·cases h
 rename_i d hd
 have e:=zU.sub_ev (ρ:=ρ) hd
 split at h
 ·rename_i z
  cases h
  have e:z=x.ev ρ-y.ev ρ:=e
  rw [wh]
  by_cases hz:z=0
  ·rw [decide_eq_true hz,decide_eq_true (by omega)]
  rw [decide_eq_false hz,decide_eq_false (by omega)]
 cases hs:d.span F with
 |none=>rw [hs]at h;cases h
 |some p=>
  obtain⟨lo,hi⟩:=p
  obtain⟨h1,h2⟩:=zU.span_ev hF hs
  rw [hs]at h
  cases e1:G2 hi 0 with
  |true=>
   have:=(ZY _ _).1 e1
   simp only [e1,cond_true,Option.some.injEq]at h
   subst h
   exact(decide_eq_false (by omega)).symm
  |false=>
   cases e2:G2 0 lo with
   |true=>
    have:=(ZY _ _).1 e2
    simp only [e1,e2,cond_true,cond_false,Option.some.injEq]at h
    subst h
    exact(decide_eq_false (by omega)).symm
   |false=>simp only [e1,e2,cond_false]at h;cases h
theorem zU.wrap_ev {F:z9} {ρ:Nat→Int} (hF:GG F ρ) {k:IntKind} {x r:zU} (h:zU.wrap F k x=some r):r.ev ρ=k.wrap (x.ev ρ):=by
 unfold zU.wrap at h
 split at h
 ·rename_i z
  cases h
  cases e:QN k z with
  |true=>simp only [cond_true,zU.ev];exact(uy e).symm
  |false=>simp only [cond_false,zU.ev]
 cases hs:zU.span F x with
 |none=>rw [hs]at h;cases h
 |some p=>
  obtain⟨lo,hi⟩:=p
  obtain⟨h1,h2⟩:=zU.span_ev hF hs
  rw [hs]at h
  cases e1:QN k lo && QN k hi with
  |false=>simp only [e1,cond_false]at h;cases h
  |true=>
   simp only [e1,cond_true,Option.some.injEq]at h
   subst h
   rw [Bool.and_eq_true]at e1
   have a:=(wq _ _).1 e1.1
   have b:=(wq _ _).1 e1.2
   exact(uy ((wq _ _).2 ⟨by omega,by omega⟩)).symm
end Go.Px
section
namespace Go.Px
open Go Go.RowKit
variable {P:Program} {F:z9} {V:qS} {B:Nat} {w0 w:World} {H:Hp}
theorem yq {x:Option AVal} {H:Hp} {r:zH} (h:zH.ofVal x H=some r): ∃v,x=some v∧r= .val v H:=by
 cases x with
 |none=>cases h
 |some v=>cases h;exact⟨v,rfl,rfl⟩
theorem zK {t:TypeId} {d:TypeDesc} (h:yO P t=some d) (w:World):(underlying t).run P w= .ok d w:=run_underlying h w
theorem wj {t:TypeId} {i:TypeInfo} (h:P.info? t=some i) (w:World):(typeInfo t).run P w= .ok i w:=by
 simp [typeInfo,program,h,Sem.run,Bind.bind,Sem.bind,Pure.pure]
theorem nu {t:TypeId} {n:Nat} (h:yH P t=some n): ∃i,P.info? t=some i∧i.size=n:=by
 unfold yH at h
 split at h
 ·rename_i i hi;cases h;exact⟨i,hi,rfl⟩
 cases h
theorem ZG {t:TypeId} {n:Nat} (h:qC P t=some n): ∃i,P.info? t=some i∧i.bytes=n:=by
 unfold qC at h
 split at h
 ·rename_i i hi;cases h;exact⟨i,hi,rfl⟩
 cases h
theorem yf {t:TypeId} {n:Nat} (h:yH P t=some n) (w:World):(sizeOf t).run P w= .ok n w:=by
 obtain⟨i,hi,rfl⟩:=nu h
 simp [sizeOf,wj hi]
theorem Ym {t:TypeId} {b:Bool} (h:jB P t=some b) (w:World):(isAgg t).run P w= .ok b w:=by
 unfold jB at h
 split at h<;>first
  |(cases h;done)
  |(rename_i e;cases h;simp [isAgg,zK e])
theorem uQ {t:TypeId} {z:AVal} (h:qk P t=some z): ∃v,(∀w,(zeroValue t).run P w= .ok v w)∧ ∀V,zL V z v:=by
 unfold qk at h
 split at h
 ·rename_i i hi
  split at h
  ·rename_i v hv
   exact⟨v,fun w=>by simp [zeroValue,wj hi,hv],fun V=>gg V 4 v z h⟩
  cases h
 cases h
theorem zL.inv_agg {cs:List AVal} {v:Value} (h:zL V (.agg cs) v): ∃x,v= .agg x∧yX V cs x.toList∧ ∀u,u ∈ cs→u.isCell=true:=by
 cases h with
 |agg _ x ha hx hc=>exact⟨x,rfl,yX.ofArray ha hx,hc⟩
theorem zL.inv_tuple {cs:List AVal} {v:Value} (h:zL V (.tuple cs) v): ∃x,v= .tuple x∧yX V cs x.toList:=by
 cases h with
 |tuple _ x ha hx=>exact⟨x,rfl,yX.ofArray ha hx⟩
theorem zL.aggA {us:List AVal} {x:Array Value} (h:yX V us x.toList) (hc: ∀u,u ∈ us→u.isCell=true):zL V (.agg us) (.agg x):=by
 have:=zL.aggL h hc
 simpa using this
theorem zL.tupleA {us:List AVal} {x:Array Value} (h:yX V us x.toList):zL V (.tuple us) (.tuple x):=by
 have:=zL.tupleL h
 simpa using this
theorem zL.inv_bool {b:Bool} {v:Value} (h:zL V (.bool b) v):v= .bool b:=by cases h;rfl
theorem zL.inv_int {k:IntKind} {s:zU} {v:Value} (h:zL V (.int k s) v):v= .int k (s.ev V.ρ):=by cases h;rfl
theorem zL.inv_ptr {i off:Nat} {v:Value} (h:zL V (.ptr (some (i,off))) v): ∃b base S,V.blk i=some (b,base,S)∧v= .pointer (some ⟨b,base+off,none⟩):=by
 cases h with
 |ptr _ _ b base S h=>exact⟨b,base,S,h,rfl⟩
theorem wA {a:AVal} {n:Nat} (h:vU a=some n) {v:Value} (hv:zL V a v): ∃k,v= .int k (n:Int):=by
 cases a<;>simp only [vU]at h<;>try (cases h;done)
 split at h
 ·rename_i h1;cases h1;cases h;exact⟨_,hv.inv_int⟩
 cases h
theorem JA: ∀(n:Nat) (l:List AVal),Uz n l=l.take n:=by
 intro n
 induction n with
 |zero=>intro l;simp [Uz]
 |succ n ih=>intro l;cases l with
  |nil=>simp [Uz]
  |cons x l=>simp [Uz,ih]
theorem tZ: ∀(n:Nat) (l:List AVal),Gx n l=l.drop n:=by
 intro n
 induction n with
 |zero=>intro l;simp [Gx]
 |succ n ih=>intro l;cases l with
  |nil=>simp [Gx]
  |cons x l=>simp [Gx,ih]
theorem yX.take {us:List AVal} {vs:List Value} (h:yX V us vs) (n:Nat):yX V (us.take n) (vs.take n):=
 yX.of (by simp [h.length]) fun i u v hu hv=>by
  by_cases hi:i<n
  ·rw [List.getElem?_take_of_lt hi]at hu hv;exact h.pt i u v hu hv
  rw [List.getElem?_take_eq_none (by omega)]at hu;cases hu
theorem yX.drop {us:List AVal} {vs:List Value} (h:yX V us vs) (n:Nat):yX V (us.drop n) (vs.drop n):=
 yX.of (by simp [h.length]) fun i u v hu hv=>by
  rw [List.getElem?_drop]at hu hv;exact h.pt _ u v hu hv
theorem vS {t:TypeId} {cs:List AVal} {off:Nat} {v:AVal} (h:jP P t cs off=some v) {x:Array Value} (hl:yX V cs x.toList) (hc: ∀u,u ∈ cs→u.isCell=true) (w:World):
 ∃v',zL V v v'∧(part t x off).run P w= .ok v' w:=by
 unfold jP at h
 split at h
 ·rename_i ha
  split at h
  ·rename_i n hn
   cases hb:Nat.ble (off+n) cs.length with
   |false=>rw [hb]at h;cases h
   |true=>
    rw [hb]at h
    cases h
    rw [JA,tZ]
    have hle:=Nat.le_of_ble_eq_true hb
    have hlen:=hl.length
    refine⟨.agg (x.extract off (off+n)),?_,by simp [part,Ym ha,yf hn]⟩
    have hh:yX V ((cs.drop off).take n) (x.extract off (off+n)).toList:=by
     rw [Array.toList_extract,List.extract_eq_take_drop,Nat.add_sub_cancel_left]
     exact(hl.drop off).take n
    exact zL.aggA hh fun u hu=>hc u (List.mem_of_mem_drop (List.mem_of_mem_take hu))
  cases h
 ·rename_i ha
  obtain⟨v',h1,h2⟩:=hl.at off v h
  refine⟨v',h2,?_⟩
  have h1':x[off]? =some v':=by simpa using h1
  simp [part,Ym ha,h1']
 cases h
theorem VJ (hW:zt B w0 V H w) {t:TypeId} {i off b base S:Nat} {v:AVal} (hb:V.blk i=some (b,base,S)) (h:Ux P t H i off=some v):
 ∃v',zL V v v'∧(loadVar t ⟨b,base+off,none⟩).run P w= .ok v' w:=by
 unfold Ux at h
 split at h
 ·rename_i ha
  split at h
  ·rename_i n hn
   split at h
   ·rename_i cs hr
    cases h
    obtain⟨hlen,hc,vs,hl,hcell⟩:=Z9 hW hb hr
    refine⟨.agg vs.toArray,zL.aggL hl hc,?_⟩
    have:=run_loadCells_list (P:=P) w ⟨b,base+off,none⟩ vs hcell
    rw [←hl.length,hlen]at this
    simp [loadVar,Ym ha,yf hn,this]
   cases h
  cases h
 ·rename_i ha
  obtain⟨v',h1,h2,_⟩:=Wr hW hb h
  exact⟨v',h2,by simp [loadVar,Ym ha,run_load,h1]⟩
 cases h
theorem Jc (hW:zt B w0 V H w) {t:TypeId} {x:OV} {r:zH} {u:Value} (hx: ∀v,x=some v→zL V v u) (h:WX P t x H=some r):
 ∃v v',r= .val v H∧zL V v v'∧(Instr.loadAt t u).run P w= .ok v' w:=by
 unfold WX at h
 split at h
 ·rename_i i off
  obtain⟨b,base,S,hb,rfl⟩:=(hx _ rfl).inv_ptr
  obtain⟨v,hv,rfl⟩:=yq h
  obtain⟨v',h1,h2⟩:=VJ hW hb hv
  exact⟨v,v',rfl,h1,by simpa [Instr.loadAt,Instr.sureAddr] using h2⟩
 cases h
theorem Qc {t:TypeId} {x:OV} {n:Nat} {r:zH} {u:Value} (hx: ∀v,x=some v→zL V v u) (h:uC P t x n H=some r) (w:World):
 ∃v v',r= .val v H∧zL V v v'∧(Instr.fieldAt t u n).run P w= .ok v' w:=by
 unfold uC at h
 split at h
 ·rename_i i off fs hu
  obtain⟨b,base,S,hb,rfl⟩:=(hx _ rfl).inv_ptr
  split at h
  ·rename_i f hf
   split at h
   ·cases h
   ·rename_i m hne hs
    cases h
    have hm:m≠0:=fun e=>hne e
    refine⟨_,.pointer (some ⟨b,base+(off+f.offset),none⟩),rfl,.ptr _ _ _ _ _ hb,?_⟩
    simp only [Instr.fieldAt,Sem.run_bind,zK hu,Result.andThen_ok,hf,Instr.sureAddr,Sem.run_pure,fieldPlace,yf hs,if_neg hm,wW,Nat.add_assoc]
   cases h
  cases h
 cases h
theorem GT {t:TypeId} {x:OV} {n:Nat} {r:zH} {u:Value} (hx: ∀v,x=some v→zL V v u) (h:YW P t x n H=some r) (w:World):
 ∃v v',r= .val v H∧zL V v v'∧(Instr.field t u n).run P w= .ok v' w:=by
 unfold YW at h
 split at h
 ·rename_i cs fs hu
  obtain⟨y,rfl,hl,hc⟩:=(hx _ rfl).inv_agg
  split at h
  ·rename_i f hf
   obtain⟨v,hv,rfl⟩:=yq h
   obtain⟨v',h1,h2⟩:=vS hv hl hc w
   exact⟨v,v',rfl,h1,by simp [Instr.field,zK hu,hf,asAgg,h2]⟩
  cases h
 cases h
theorem Qf {t:TypeId} {x y:OV} {r:zH} {u z:Value} (hx: ∀v,x=some v→zL V v u) (hy: ∀v,y=some v→zL V v z) (h:vO P t x y H=some r) (w:World):
 ∃v v',r= .val v H∧zL V v v'∧(Instr.indexAt t u z).run P w= .ok v' w:=by
 unfold vO at h
 split at h
 ·rename_i i off v len e hu
  obtain⟨b,base,S,hb,rfl⟩:=(hx _ rfl).inv_ptr
  split at h
  ·rename_i n size hn hs
   obtain⟨k,rfl⟩:=wA hn (hy _ rfl)
   cases hlt:Nat.blt n len with
   |false=>rw [hlt]at h;cases h
   |true=>
    rw [hlt]at h
    cases h
    have hlt':n<len:=by simpa using hlt
    refine⟨_,.pointer (some ⟨b,base+(off+n*size),none⟩),rfl,.ptr _ _ _ _ _ hb,?_⟩
    simp only [Instr.indexAt,asIntOf,Sem.run_bind,Sem.run_pure,Result.andThen_ok,zK hu,Instr.sureAddr]
    rw [if_pos (⟨by omega,by omega⟩:(0:Int)≤(n:Int)∧(n:Int)<(len:Int))]
    simp only [Sem.run_bind,yf hs,Result.andThen_ok,Sem.run_pure,Int.toNat_natCast,wW,Nat.add_assoc]
  cases h
 ·rename_i i off len cap es v e hu
  have hsl:=hx _ rfl
  split at h
  ·rename_i n size hn hs
   obtain⟨k,rfl⟩:=wA hn (hy _ rfl)
   cases hlt:Nat.blt n len with
   |false=>rw [hlt]at h;cases h
   |true=>
    rw [hlt]at h
    cases h
    have hlt':n<len:=by simpa using hlt
    cases hsl with
    |slice _ _ _ _ _ b base S c hb hl hc hS=>
     refine⟨_,.pointer (some ⟨b,base+(off+n*size),none⟩),rfl,.ptr _ _ _ _ _ hb,?_⟩
     simp only [Instr.indexAt,asIntOf,Sem.run_bind,Sem.run_pure,Result.andThen_ok,zK hu]
     rw [if_pos (⟨by omega,by omega⟩:(0:Int)≤(n:Int)∧(n:Int)<(len:Int))]
     simp only [Sem.run_bind,yf hs,Result.andThen_ok,Sem.run_pure,Int.toNat_natCast,wW,Nat.add_assoc]
    |sliceR _ _ _ _ _ b base S c a hb hbl hl hc ha=>
     obtain rfl:=ha (.inl (by omega))
     refine⟨_,.pointer (some ⟨b,base+(off+n*size),none⟩),rfl,.ptr _ _ _ _ _ hb,?_⟩
     simp only [Instr.indexAt,asIntOf,Sem.run_bind,Sem.run_pure,Result.andThen_ok,zK hu]
     rw [if_pos (⟨by omega,by omega⟩:(0:Int)≤(n:Int)∧(n:Int)<(len:Int))]
     simp only [Sem.run_bind,yf hs,Result.andThen_ok,Sem.run_pure,Int.toNat_natCast,wW,Nat.add_assoc]
    |sliceE=>exact absurd hlt' (Nat.not_lt_zero _)
  cases h
 cases h
theorem yz (l:List Nat):zZ l=true↔ ∀n,n ∈ l→n<256:=by
 induction l with
 |nil=>simp [zZ]
 |cons x l ih=>simp [zZ,ih]
theorem gn (ρ:Nat→Int): ∀(l:List Nat),(∀n,n ∈ l→n<256)→jV ρ l=l.map UInt8.ofNat:=by
 intro l
 induction l with
 |nil=>intro _;rfl
 |cons x l ih=>intro h;simp only [jV,if_pos (h x (by simp)),List.map_cons,ih fun n hn=>h n (by simp [hn]),List.cons_append,List.nil_append]
theorem Gm {l:List Nat} {s:ByteArray} (hl:zZ l=true) (h:zL V (.str l) (.string s)):s.data.toList=l.map UInt8.ofNat:=by
 cases h with
 |str _ _ h=>rw [h,gn _ _ ((yz l).1 hl)]
theorem zL.inv_str {l:List Nat} {v:Value} (h:zL V (.str l) v): ∃s,v= .string s∧s.data.toList=jV V.ρ l:=by
 cases h with
 |str _ s h=>exact⟨s,rfl,h⟩
theorem GY {t:TypeId} {x y:OV} {r:zH} {u z:Value} (hx: ∀v,x=some v→zL V v u) (hy: ∀v,y=some v→zL V v z) (h:Yr P t x y H=some r) (w:World):
 ∃v v',r= .val v H∧zL V v v'∧(Instr.index t u z).run P w= .ok v' w:=by
 unfold Yr at h
 split at h
 ·rename_i cs v len e hu
  obtain⟨q,rfl,hl,hc⟩:=(hx _ rfl).inv_agg
  split at h
  ·rename_i n size hn hs
   obtain⟨k,rfl⟩:=wA hn (hy _ rfl)
   cases hlt:Nat.blt n len with
   |false=>rw [hlt]at h;cases h
   |true=>
    rw [hlt]at h
    obtain⟨v,hv,rfl⟩:=yq h
    have hlt':n<len:=by simpa using hlt
    obtain⟨v',h1,h2⟩:=vS hv hl hc w
    refine⟨v,v',rfl,h1,?_⟩
    simp only [Instr.index,asIntOf,Sem.run_bind,Sem.run_pure,Result.andThen_ok,zK hu]
    rw [if_pos (⟨by omega,by omega⟩:(0:Int)≤(n:Int)∧(n:Int)<(len:Int))]
    simp only [Sem.run_bind,yf hs,Result.andThen_ok,Int.toNat_natCast,h2]
  cases h
 ·rename_i s v hu
  split at h
  ·rename_i n hn
   obtain⟨k,rfl⟩:=wA hn (hy _ rfl)
   cases hb:zZ s with
   |false=>rw [hb]at h;cases h
   |true=>
    rw [hb]at h
    simp only [cond_true]at h
    split at h
    ·rename_i b hs
     cases h
     obtain⟨q,rfl,_⟩:=(hx _ rfl).inv_str
     have hq:=Gm hb (hx _ rfl)
     have hlt:n<s.length:=(List.getElem?_eq_some_iff.1 hs).1
     have hq2:q.data.toList[n]? =some (UInt8.ofNat b):=by rw [hq];simp [hs]
     have hsz:n<q.size:=by
      have:q.data.toList.length=s.length:=by rw [hq];simp
      have h2:q.size=q.data.toList.length:=by cases q;rfl
      omega
     have hq3:q[n]? =some (UInt8.ofNat b):=by
      have e:q[n]? =some q[n]:=by simp [hsz]
      rw [e]
      have e2:q.data.toList[n]? =some q[n]:=by
       cases q with
       |mk d=>
       have hd:n<d.size:=hsz
       show d.toList[n]? =_
       rw [Array.getElem?_toList,Array.getElem?_eq_getElem hd]
       rfl
      rw [e2]at hq2
      exact hq2
     have hb2:b<256:=(yz s).1 hb b (List.mem_of_getElem? hs)
     refine⟨_,.int .u8 (b:Int),rfl,.int .u8 (.lit (.ofNat b)),?_⟩
     simp only [Instr.index,asIntOf,Sem.run_bind,Sem.run_pure,Result.andThen_ok,zK hu]
     rw [if_pos (by omega:(0:Int)≤(n:Int)),Int.toNat_natCast,hq3]
     simp [UInt8.toNat_ofNat_of_lt' hb2]
    cases h
  cases h
 cases h
end Go.Px
end
section
namespace Go.Px
open Go Go.RowKit
variable {P:Program} {F:z9} {V:qS} {B:Nat} {w0 w:World} {H:Hp}
theorem Y6 (a b:IntKind):vf a b=true↔a=b:=by cases a<;>cases b<;>simp [vf,ZD]
theorem mf {k:IntKind} {n:Nat} (h:QN k (.ofNat n)=true):n<2^k.bits:=by
 have:=((wq k _).1 h).2
 have h':(n:Int)≤gR k:=this
 cases k<;>simp only [gR]at h'<;>simp only [IntKind.bits,Nat.reducePow]<;>omega
theorem pe {k:IntKind} {op:BinOp} {a b r:Nat} (ha:QN k (.ofNat a)=true) (hb:QN k (.ofNat b)=true) (h:YU op a b=some r) (w:World):
 (Op.intBits op k (.ofNat a) (.ofNat b)).run P w= .ok (.int k (.ofNat r)) w:=by
 have ea:(BitVec.ofInt k.bits (.ofNat a)).toNat=a:=by
  rw [show(Int.ofNat a)=(a:Int)from rfl,BitVec.ofInt_natCast,BitVec.toNat_ofNat,Nat.mod_eq_of_lt (mf ha)]
 have eb:(BitVec.ofInt k.bits (.ofNat b)).toNat=b:=by
  rw [show(Int.ofNat b)=(b:Int)from rfl,BitVec.ofInt_natCast,BitVec.toNat_ofNat,Nat.mod_eq_of_lt (mf hb)]
 have up: ∀n:Nat,(n:Int)≤gR k→k.wrap (n:Int)=(n:Int):=fun n hn=>uy ((wq k _).2 ⟨by cases k<;>simp only [Qs]<;>omega,hn⟩)
 have hka:=((wq k _).1 ha).2
 have hkb:=((wq k _).1 hb).2
 have p2: ∃m,gR k+1=((2^m:Nat):Int):=by
  cases k with
  |i8=>exact⟨7,by decide⟩
  |i16=>exact⟨15,by decide⟩
  |i32=>exact⟨31,by decide⟩
  |i64=>exact⟨63,by decide⟩
  |u8=>exact⟨8,by decide⟩
  |u16=>exact⟨16,by decide⟩
  |u32=>exact⟨32,by decide⟩
  |u64=>exact⟨64,by decide⟩
 obtain⟨m,hm⟩:=p2
 have hka':a<2^m:=by
  have:(a:Int)≤gR k:=hka
  have h2:(a:Int)<((2^m:Nat):Int):=by omega
  exact Int.ofNat_lt.1 h2
 have hkb':b<2^m:=by
  have:(b:Int)≤gR k:=hkb
  have h2:(b:Int)<((2^m:Nat):Int):=by omega
  exact Int.ofNat_lt.1 h2
 have fin: ∀n:Nat,n<2^m→k.wrap (n:Int)=(n:Int):=fun n hn=>up n (by
  have:(n:Int)<((2^m:Nat):Int):=Int.ofNat_lt.2 hn
  omega)
 cases op<;>simp only [YU]at h<;>try (cases h;done)
 ·cases h
  simp only [Op.intBits,Sem.run_pure]
  rw [BitVec.toNat_and,ea,eb,fin _ (Nat.lt_of_le_of_lt Nat.and_le_left hka')];rfl
 ·cases h
  simp only [Op.intBits,Sem.run_pure]
  rw [BitVec.toNat_or,ea,eb,fin _ (Nat.or_lt_two_pow hka' hkb')];rfl
 ·cases h
  simp only [Op.intBits,Sem.run_pure]
  rw [BitVec.toNat_xor,ea,eb,fin _ (Nat.xor_lt_two_pow hka' hkb')];rfl
 cases h
 simp only [Op.intBits,Sem.run_pure]
 have key: ∀(n:Nat) (x y:BitVec n),(x &&& ~~~y)=x^^^(x &&& y):=by
  intro n x y
  ext i hi
  simp only [BitVec.getElem_and,BitVec.getElem_not,BitVec.getElem_xor]
  cases x[i]<;>cases y[i]<;>rfl
 rw [key,BitVec.toNat_xor,BitVec.toNat_and,ea,eb,fin _ (Nat.xor_lt_two_pow hka' (Nat.lt_of_le_of_lt Nat.and_le_left hka'))];rfl
theorem xq (hF:GG F V.ρ) {op:BinOp} {k:IntKind} {x y:zU} {v:AVal} (h:uZ F op k x y=some v) (t:TypeId) (w:World):
 ∃v',zL V v v'∧(binOp op t (.int k (x.ev V.ρ)) (.int k (y.ev V.ρ))).run P w= .ok v' w:=by
 have num: ∀(s:Option zU) (z:Int),(∀r,s=some r→r.ev V.ρ=z)→(match s with
  |none=>none
  |some r=>match zU.wrap F k r with
   |none=>none
   |some r=>some (AVal.int k r))=some v→zL V v (.int k (k.wrap z)):=by
  intro s z hs h
  cases s with
  |none=>cases h
  |some r=>
   cases hw:zU.wrap F k r with
   |none=>simp only [hw]at h;cases h
   |some r'=>
    simp only [hw]at h;cases h
    rw [←hs r rfl,←zU.wrap_ev hF hw]
    exact .int k r'
 have tst: ∀(s:Option Bool) (neg b:Bool),(∀r,s=some r→xor r neg=b)→(match s with
  |none=>none
  |some c=>some (AVal.bool (xor c neg)))=some v→zL V v (.bool b):=by
  intro s neg b hs h
  cases s with
  |none=>cases h
  |some r=>cases h;rw [hs r rfl];exact .bool _
 cases op<;>simp only [uZ]at h
 case add=>exact⟨_,num _ _ (fun r hr=>zU.add_ev hr) h,by simp [binOp,Op.intArith]⟩
 case sub=>exact⟨_,num _ _ (fun r hr=>zU.sub_ev hr) h,by simp [binOp,Op.intArith]⟩
 case mul=>exact⟨_,num _ _ (fun r hr=>zU.mul_ev hr) h,by simp [binOp,Op.intArith]⟩
 case quo=>
  split at h
  ·rename_i a b
   cases hb:gD b 0 with
   |true=>rw [hb]at h;cases h
   |false=>
    rw [hb]at h
    have hne:b≠0:=fun e=>by rw [(gL b 0).2 e]at hb;cases hb
    exact⟨_,num (some (.lit (Int.tdiv a b))) (Int.tdiv a b) (fun r hr=>by cases hr;rfl) h,by simp [binOp,Op.intDiv,zU.ev,hne]⟩
  cases h
 case rem=>
  split at h
  ·rename_i a b
   cases hb:gD b 0 with
   |true=>rw [hb]at h;cases h
   |false=>
    rw [hb]at h
    cases h
    have hne:b≠0:=fun e=>by rw [(gL b 0).2 e]at hb;cases hb
    exact⟨_,.int k (.lit (Int.tmod a b)),by simp [binOp,Op.intDiv,zU.ev,hne]⟩
  cases h
 case eql=>exact⟨_,tst _ _ _ (fun r hr=>by rw [zU.eq_ev hF hr,Bool.xor_false]) h,by simp [binOp,Op.intCmp,BEq.beq]⟩
 case neq=>exact⟨_,tst _ _ (! decide (x.ev V.ρ=y.ev V.ρ)) (fun r hr=>by rw [zU.eq_ev hF hr,Bool.xor_true]) h,by simp [binOp,Op.intCmp,bne,BEq.beq]⟩
 case lss=>exact⟨_,tst _ _ _ (fun r hr=>by rw [zU.lt_ev hF hr,Bool.xor_false]) h,by simp [binOp,Op.intCmp]⟩
 case gtr=>exact⟨_,tst _ _ _ (fun r hr=>by rw [zU.lt_ev hF hr,Bool.xor_false]) h,by simp [binOp,Op.intCmp]⟩
 case leq=>exact⟨.bool (decide (x.ev V.ρ≤y.ev V.ρ)),tst _ _ _ (fun r hr=>by
  rw [zU.lt_ev hF hr,Bool.xor_true]
  by_cases c:y.ev V.ρ<x.ev V.ρ
  ·rw [decide_eq_true c,decide_eq_false (by omega)];rfl
  rw [decide_eq_false c,decide_eq_true (by omega)];rfl) h,by simp [binOp,Op.intCmp]⟩
 case geq=>exact⟨.bool (decide (x.ev V.ρ≥y.ev V.ρ)),tst _ _ _ (fun r hr=>by
  rw [zU.lt_ev hF hr,Bool.xor_true]
  by_cases c:x.ev V.ρ<y.ev V.ρ
  ·rw [decide_eq_true c,decide_eq_false (by omega)];rfl
  rw [decide_eq_false c,decide_eq_true (by omega)];rfl) h,by simp [binOp,Op.intCmp]⟩
 case shl=>cases h
 case shr=>cases h
 all_goals
  split at h
  ·rename_i a b
   cases hk:QN k (.ofNat a) && QN k (.ofNat b)with
   |false=>rw [hk]at h;cases h
   |true=>
    rw [Bool.and_eq_true]at hk
    rw [hk.1,hk.2]at h
    simp only [Bool.and_self,cond_true]at h
    split at h
    ·rename_i r hr
     cases h
     exact⟨_,.int k (.lit (.ofNat r)),by simpa [binOp,zU.ev] using pe (P:=P) hk.1 hk.2 hr w⟩
    cases h
  cases h
end Go.Px
end
section
namespace Go.Px
open Go Go.RowKit
variable {P:Program} {F:z9} {V:qS} {B:Nat} {w0 w:World} {H:Hp}
theorem ja (a b:List Nat):qv a b=true↔a=b:=by
 induction a generalizing b with
 |nil=>cases b<;>simp [qv]
 |cons x l ih=>cases b with
  |nil=>simp [qv]
  |cons y m=>simp [qv,ih]
theorem nI {a b:List Nat} (ha:zZ a=true) (hb:zZ b=true) (h:a.map UInt8.ofNat=b.map UInt8.ofNat):a=b:=by
 induction a generalizing b with
 |nil=>cases b with
  |nil=>rfl
  |cons y m=>simp at h
 |cons x l ih=>cases b with
  |nil=>simp at h
  |cons y m=>
   simp only [List.map_cons,List.cons.injEq]at h
   have hx:=(yz _).1 ha
   have hy:=(yz _).1 hb
   have e:x=y:=by
    have:=congrArg UInt8.toNat h.1
    rw [UInt8.toNat_ofNat_of_lt' (hx x (by simp)),UInt8.toNat_ofNat_of_lt' (hy y (by simp))]at this
    exact this
   rw [e,ih ((yz _).2 fun n hn=>hx n (by simp [hn])) ((yz _).2 fun n hn=>hy n (by simp [hn])) h.2]
theorem dw {a b:List Nat} {s t:ByteArray} (hs:s.data.toList=jV V.ρ a) (ht:t.data.toList=jV V.ρ b) {c:Bool}
 (h:(bif qv a b then some true else bif zZ a && zZ b then some false else none)=some c):(s.toList==t.toList)=c:=by
 rw [ByteArray.toList_eq,ByteArray.toList_eq,hs,ht]
 cases e:qv a b with
 |true=>rw [e]at h;cases h;rw [(ja a b).1 e];simp
 |false=>
  rw [e]at h
  cases e2:zZ a && zZ b with
  |false=>rw [e2]at h;cases h
  |true=>
   rw [e2]at h;cases h
   rw [Bool.and_eq_true]at e2
   rw [gn _ _ ((yz a).1 e2.1),gn _ _ ((yz b).1 e2.2)]
   apply beq_eq_false_iff_ne.2
   intro hh
   rw [(ja a b).2 (nI e2.1 e2.2 hh)]at e
   cases e
def ik (P:Program) (V:qS) (B:Nat) (w0:World) (H:Hp) (d:Nat) (eq:TypeId→AVal→AVal→Option Bool):Prop:=
 ∀t x y c,eq t x y=some c→ ∀u v w,zt B w0 V H w→zL V x u→zL V y v→ ∀d',d≤d'→(Op.equalIn d' t u v).run P w= .ok c w
theorem xQ {d d':Nat} {eq:TypeId→AVal→AVal→Option Bool} (hd:d≤d') (ih:ik P V B w0 H d eq) {e:TypeId} {n:Nat} {as bs:List AVal} {xs ys:Array Value}
 (hx:yX V as xs.toList) (hy:yX V bs ys.toList) (hcx: ∀u,u ∈ as→u.isCell=true) (hcy: ∀u,u ∈ bs→u.isCell=true) (hW:zt B w0 V H w):
 ∀(m i:Nat) (c:Bool),Zi (eq e) P e n as bs m i=some c→
 (forIn (List.range' i m) ((none,()):Option Bool×Unit) (fun i __s=>do
  if(!(←Op.equalIn d' e (←part e xs (i*n)) (←part e ys (i*n))))=true then pure (.done (some false,()))else pure (.yield (none,()))):Sem (Option Bool×Unit)).run P w=
  .ok (if c then(none,())else(some false,())) w:=by
 intro m
 induction m with
 |zero=>intro i c h;cases h;simp
 |succ m ihm=>
  intro i c h
  simp only [Zi]at h
  split at h
  ·rename_i a b ha hb
   obtain⟨a',ra,ha'⟩:=vS ha hx hcx w
   obtain⟨b',rb,hb'⟩:=vS hb hy hcy w
   rw [List.range'_succ,List.forIn_cons]
   cases he:eq e a b with
   |none=>rw [he]at h;cases h
   |some r=>
    rw [he]at h
    have hr:=ih e a b r he a' b' w hW ra rb d' hd
    simp only [Sem.run_bind,ha',hb',hr,Result.andThen_ok]
    cases r with
    |true=>simpa using ihm (i+1) c h
    |false=>cases h;simp
  cases h
theorem ko {d d':Nat} {eq:TypeId→AVal→AVal→Option Bool} (hd:d≤d') (ih:ik P V B w0 H d eq) {as bs:List AVal} {xs ys:Array Value}
 (hx:yX V as xs.toList) (hy:yX V bs ys.toList) (hcx: ∀u,u ∈ as→u.isCell=true) (hcy: ∀u,u ∈ bs→u.isCell=true) (hW:zt B w0 V H w):
 ∀(fs:List Field) (c:Bool),YF eq P as bs fs=some c→(Op.eqFields d' xs ys fs).run P w= .ok c w:=by
 intro fs
 induction fs with
 |nil=>intro c h;cases h;simp [Op.eqFields]
 |cons f fs ihf=>
  intro c h
  simp only [YF]at h
  cases hn:f.name== "_" with
  |true=>rw [hn]at h;cases h
  |false=>
   rw [hn]at h
   simp only [cond_false]at h
   have hn':f.name≠ "_" :=by simpa using hn
   split at h
   ·rename_i a b ha hb
    obtain⟨a',ra,ha'⟩:=vS ha hx hcx w
    obtain⟨b',rb,hb'⟩:=vS hb hy hcy w
    cases he:eq f.type a b with
    |none=>rw [he]at h;cases h
    |some r=>
     rw [he]at h
     have hr:=ih f.type a b r he a' b' w hW ra rb d' hd
     simp only [Op.eqFields,if_pos hn',Sem.run_bind,ha',hb',hr,Result.andThen_ok]
     cases r with
     |true=>simpa using ihf c h
     |false=>cases h;simp
   cases h
theorem cb (hW:zt B w0 V H w) {i n b base S:Nat} (hi:H.rowW i=some n) (hb:V.blk i=some (b,base,S)):
 ∃o arr el,H.t.get i=some o∧w.heap[b]? =some (.cells arr el (0,0)):=by
 unfold Hp.rowW at hi
 split at hi
 ·rename_i c m ho
  obtain⟨x,hx,hr⟩:=hW.obj i _ b base S ho hb
  cases hr with
  |cells _ _ _ _ _ _ arr el fz hrw=>obtain⟨rfl,_⟩:=hrw rfl;exact⟨_,arr,el,ho,hx⟩
 cases hi
theorem Ge (hW:zt B w0 V H w) {i n b base S:Nat} (hi:H.rowW i=some n) (hb:V.blk i=some (b,base,S)):B≤b:=by
 unfold Hp.rowW at hi
 split at hi
 ·rename_i c m ho
  obtain⟨x,hx,hr⟩:=hW.obj i _ b base S ho hb
  cases hr with
  |cells _ _ _ _ _ _ arr el fz hrw=>exact(hrw rfl).2
 cases hi
theorem Wx {w:World} {b:Nat} {x:Array Value} {el:TypeId} (h:w.heap[b]? =some (.cells x el (0,0))) (o:Nat) (s:Option Nat):w.frozen? ⟨b,o,s⟩=false:=by
 simp [World.frozen?,h]
theorem JT {a b:Addr} {x y:Array Value} {el el':TypeId} (ha:w.heap[a.block]? =some (.cells x el (0,0))) (hb:w.heap[b.block]? =some (.cells y el' (0,0))) (hne:a.block≠b.block):
 (sameAddr a b).run P w= .ok false w:=by
 obtain⟨ab,ao,as⟩:=a
 obtain⟨bb,bo,bs⟩:=b
 have f1:=Wx ha
 have f2:=Wx hb
 have s1:w.shape? ab=some (el,x.size):=by simp [World.shape?,ha]
 have s2:w.shape? bb=some (el',y.size):=by simp [World.shape?,hb]
 have hne':(ab==bb)=false:=by simpa using hne
 simp only [sameAddr,hne',Bool.false_eq_true,if_false]
 simp [frozen,shape,Sem.run,Bind.bind,Sem.bind,Pure.pure,noView,viewAt,mayBeOne,stringish,f1,f2,s1,s2]
theorem QM {b o p:Nat} (w:World):(sameAddr ⟨b,o,none⟩ ⟨b,p,none⟩).run P w= .ok (o==p) w:=by
 have e:((⟨b,o,none⟩:Addr)==⟨b,p,none⟩)=(o==p):=by
  rw [Bool.eq_iff_iff,beq_iff_eq,beq_iff_eq]
  exact⟨fun h=>by cases h;rfl,fun h=>by rw [h]⟩
 simp [sameAddr,e]
set_option maxHeartbeats 800000 in
theorem Wb (hF:GG F V.ρ): ∀n,ik P V B w0 H n (Yb P F H n):=by
 intro n
 induction n with
 |zero=>intro t x y c h;cases h
 |succ n ih=>
  intro t x y c h u v w hW hx hy d hd
  obtain⟨d,rfl⟩: ∃e,d=e+1:=⟨d-1,by omega⟩
  have hd:n≤d:=by omega
  unfold Yb at h
  split at h
  ·split at h
   ·rename_i e
    cases hx;cases hy;cases h
    exact run_equalIn_bool' w d t _ _ e
   cases h
  ·split at h
   ·rename_i k a j b _ k' e
    cases hk:vf k j with
    |false=>rw [hk]at h;cases h
    |true=>
     rw [hk]at h
     have:=(Y6 k j).1 hk
     subst this
     cases hx;cases hy
     rw [run_equalIn_int w d t k k' _ _ e,zU.eq_ev hF h]
     rfl
   cases h
  ·split at h
   ·rename_i e
    obtain⟨s,rfl,hs⟩:=hx.inv_str
    obtain⟨q,rfl,hq⟩:=hy.inv_str
    rw [run_equalIn_string w d t _ _ e,dw hs hq h]
   cases h
  ·split at h
   ·rename_i el e
    split at h
    ·cases hx;cases hy;cases h
     simp [Op.equalIn,zK e]
    ·cases hx;cases hy;cases h
     simp [Op.equalIn,zK e]
    ·cases hx;cases hy;cases h
     simp [Op.equalIn,zK e]
    rename_i i o j p
    obtain⟨b1,a1,S1,h1,rfl⟩:=hx.inv_ptr
    obtain⟨b2,a2,S2,h2,rfl⟩:=hy.inv_ptr
    split at h
    ·cases h
    ·rename_i m hm0 hm
     have hm1:m≠0:=fun e=>hm0 e
     have step:(Op.equalIn (d+1) t (.pointer (some ⟨b1,a1+o,none⟩)) (.pointer (some ⟨b2,a2+p,none⟩))).run P w=(sameAddr ⟨b1,a1+o,none⟩ ⟨b2,a2+p,none⟩).run P w:=by
      simp [Op.equalIn,zK e,yf hm,hm1]
     rw [step]
     cases hij:Nat.beq i j with
     |true=>
      have:=Nat.eq_of_beq_eq_true hij
      subst this
      rw [h1]at h2
      cases h2
      rw [hij]at h
      cases h
      rw [QM]
      congr 1
      rw [Bool.eq_iff_iff,beq_iff_eq,Nat.beq_eq]
      omega
     |false=>
      rw [hij]at h
      simp only [cond_false]at h
      split at h
      ·rename_i r1 r2 hr1 hr2
       cases h
       obtain⟨o1,x1,e1,ho1,hb1⟩:=cb hW hr1 h1
       obtain⟨o2,x2,e2,ho2,hb2⟩:=cb hW hr2 h2
       have hne:i≠j:=fun e=>by rw [e,Nat.beq_refl]at hij;cases hij
       exact JT hb1 hb2 ((hW.inj i j o1 o2 b1 b2 a1 a2 S1 S2 ho1 ho2 h1 h2 hne).resolve_right (Nat.not_lt.2 (Ge hW hr1 h1)))
      cases h
    cases h
   cases h
  ·split at h
   ·rename_i e
    cases hx;cases hy;cases h
    simp [Op.equalIn,zK e]
   cases h
  ·split at h
   ·rename_i e
    cases hx;cases hy;cases h
    simp [Op.equalIn,zK e]
   cases h
  ·split at h
   ·rename_i e
    cases hx;cases hy;cases h
    simp [Op.equalIn,zK e]
   cases h
  ·split at h
   ·rename_i e
    cases hx;cases h
    cases hy<;>simp [Op.equalIn,zK e]
   cases h
  ·split at h
   ·rename_i e
    cases hx<;>cases hy<;>cases h
    all_goals simp [Op.equalIn,zK e]
   cases h
  ·split at h
   ·rename_i e
    cases hx;cases h
    cases hy<;>simp [Op.equalIn,zK e]
   cases h
  ·split at h
   ·rename_i e
    cases hx;cases hy;cases h
    simp [Op.equalIn,zK e]
   cases h
  ·split at h
   ·rename_i e
    cases hx;cases hy;cases h
    simp [Op.equalIn,zK e]
   cases h
  ·split at h
   ·rename_i e
    cases hx;cases hy;cases h
    simp [Op.equalIn,zK e]
   cases h
  ·split at h
   ·rename_i e
    cases hx;cases hy;cases h
    simp [Op.equalIn,zK e]
   cases h
  ·rename_i xs ys
   obtain⟨xa,rfl,hlx,hcx⟩:=hx.inv_agg
   obtain⟨ya,rfl,hly,hcy⟩:=hy.inv_agg
   split at h
   ·rename_i fs e
    cases hst:P.stoodInHeld t with
    |true=>rw [hst]at h;cases h
    |false=>
     rw [hst]at h
     have e':P.underlying t=some (.struct (P.fieldsOf t)):=by
      unfold Program.fieldsOf
      have:P.underlying t=some (.struct fs):=e
      rw [this]
     have hfs:P.fieldsOf t=fs:=by
      have:P.underlying t=some (.struct fs):=e
      unfold Program.fieldsOf
      rw [this]
     rw [run_equalIn_struct w d t xa ya e' hst,hfs]
     exact ko hd ih hlx hly hcx hcy hW fs.toList c h
   ·rename_i len el e
    split at h
    ·rename_i m hm
     have:=xQ hd ih (e:=el) (n:=m) hlx hly hcx hcy hW len 0 c h
     simp only [Op.equalIn,Sem.run_bind,zK e,Result.andThen_ok,yf hm]
     rw [Std.Legacy.Range.forIn_eq_forIn_range']
     have hsz:(Std.Legacy.Range.mk 0 len 1 (by decide)).size=len:=by simp [Std.Legacy.Range.size]
     rw [hsz]
     refine(congrArg (fun r=>Result.andThen r _) this).trans ?_
     cases c<;>simp
    cases h
   cases h
  cases h
theorem V5 (hF:GG F V.ρ) {op:BinOp} {k yk:IntKind} {x y:zU} {v:AVal} (ho:op= .shl∨op= .shr) (h:jc F op k x y=some v) (t:TypeId) (w:World):
 ∃v',zL V v v'∧(binOp op t (.int k (x.ev V.ρ)) (.int yk (y.ev V.ρ))).run P w= .ok v' w:=by
 unfold jc at h
 split at h
 ·rename_i a b
  split at h
  ·cases hb:Nat.ble b 64 with
   |false=>rw [hb]at h;cases h
   |true=>
    rw [hb]at h
    simp only [cond_true]at h
    split at h
    ·rename_i r hr
     cases h
     have e:=zU.wrap_ev hF hr
     refine⟨.int k (r.ev V.ρ),.int k r,?_⟩
     rw [e]
     have hnn: ¬((Int.ofNat b)<0):=by have:=Int.natCast_nonneg b;show¬((b:Int)<0);omega
     show(Op.shift .shl k (Int.ofNat a) yk (Int.ofNat b)).run P w=_
     unfold Op.shift
     rw [if_neg hnn]
     simp only [Sem.run_pure]
     congr 3
    cases h
  ·cases hb:Nat.ble b 64 with
   |false=>rw [hb]at h;cases h
   |true=>
    rw [hb]at h
    cases h
    refine⟨_,.int k (.lit _),?_⟩
    have hnn: ¬((Int.ofNat b)<0):=by have:=Int.natCast_nonneg b;show¬((b:Int)<0);omega
    show(Op.shift .shr k (Int.ofNat a) yk (Int.ofNat b)).run P w=_
    unfold Op.shift
    rw [if_neg hnn]
    simp only [Sem.run_pure]
    congr 2
    show Int.fdiv (a:Int) (2^(min (Int.ofNat b).toNat k.bits))=((a/2^(Nat.min b k.bits):Nat):Int)
    rw [Int.fdiv_eq_ediv_of_nonneg _ (by exact Int.le_of_lt (Int.pow_pos (by decide)))]
    rw [Int.natCast_ediv,Int.natCast_pow]
    rfl
  cases h
 cases h
theorem Y0 {l:List Nat} {s:ByteArray} (hl:zZ l=true) (h:s.data.toList=jV V.ρ l):s.size=l.length:=by
 rw [gn _ _ ((yz l).1 hl)]at h
 have h2:s.size=s.data.toList.length:=by cases s;rfl
 rw [h2,h];simp
theorem ka (ρ:Nat→Int) (a b:List Nat):jV ρ (a++b)=jV ρ a++jV ρ b:=by
 induction a with
 |nil=>rfl
 |cons x l ih=>simp [jV,ih]
theorem GA {op:BinOp} {t:TypeId} {x y:Operand} {a b:AVal} {u v:Value} (h:km P t (tG x||tG y) a b=true) (ha:zL V a u) (hb:zL V b v) (w:World):
 (eqGuard op t x y u v).run P w= .ok () w:=by
 cases op<;>try (exact rfl)
 all_goals
  cases ha<;>cases hb<;>try (exact rfl)
  ·simp only [km]at h
   cases x<;>cases y<;>first|(cases h;done)|exact rfl
  simp only [km,Bool.not_eq_true']at h
  exact run_eqGuard_agg w _ t x y _ _ h
theorem xV {op:BinOp} (ho:op= .eql∨op= .neq) {a b:AVal} {u v:Value} {t:TypeId} {c:Bool} (ha:zL V a u) (hb:zL V b v) (hni: ∀k s j r,¬(a= .int k s∧b= .int j r)) (hns: ∀s r,¬(a= .str s∧b= .str r))
 (h:(Op.equalIn 10000 t u v).run P w= .ok c w):(binOp op t u v).run P w= .ok (.bool (if op= .eql then c else !c)) w:=by
 have h':(Op.equal t u v).run P w= .ok c w:=h
 rcases ho with rfl|rfl
 all_goals
  cases ha<;>cases hb<;>first
   |exact absurd ⟨rfl,rfl⟩ (hni _ _ _ _)
   |exact absurd ⟨rfl,rfl⟩ (hns _ _)
   |(simp only [binOp,Sem.run_bind,h',Result.andThen_ok,Sem.run_pure];rfl)
theorem dB (hF:GG F V.ρ) (hW:zt B w0 V H w) {op:BinOp} {t:TypeId} {x y:Operand} {a b:OV} {r:zH} {u v:Value} (ha: ∀z,a=some z→zL V z u) (hb: ∀z,b=some z→zL V z v)
 (h:Gl P F op t (tG x||tG y) a b H=some r): ∃z z',r= .val z H∧zL V z z'∧(eqGuard op t x y u v).run P w= .ok () w∧(binOp op t u v).run P w= .ok z' w:=by
 unfold Gl at h
 split at h
 ·rename_i a b
  replace ha:=ha _ rfl
  replace hb:=hb _ rfl
  obtain⟨z,hz,rfl⟩:=yq h
  clear h
  unfold wJ at hz
  split at hz
  ·rename_i k s j q
   obtain rfl:=ha.inv_int
   obtain rfl:=hb.inv_int
   have hg:(eqGuard op t x y (.int k (s.ev V.ρ)) (.int j (q.ev V.ρ))).run P w= .ok () w:=by cases op<;>rfl
   split at hz
   ·obtain⟨z',h1,h2⟩:=V5 (P:=P) hF (.inl rfl) hz t w;exact⟨z,z',rfl,h1,hg,h2⟩
   ·obtain⟨z',h1,h2⟩:=V5 (P:=P) hF (.inr rfl) hz t w;exact⟨z,z',rfl,h1,hg,h2⟩
   cases hk:vf k j with
   |false=>rw [hk]at hz;cases hz
   |true=>
    rw [hk]at hz
    have:=(Y6 k j).1 hk
    subst this
    obtain⟨z',h1,h2⟩:=xq (P:=P) hF hz t w;exact⟨z,z',rfl,h1,hg,h2⟩
  ·rename_i s q
   obtain⟨s',rfl,hs⟩:=ha.inv_str
   obtain⟨q',rfl,hq⟩:=hb.inv_str
   have hg:(eqGuard op t x y (.string s') (.string q')).run P w= .ok () w:=by cases op<;>rfl
   split at hz
   ·cases hc:zZ s && zZ q && Nat.ble (s.length+q.length) yN with
    |false=>rw [hc]at hz;cases hz
    |true=>
     rw [hc]at hz
     cases hz
     simp only [Bool.and_eq_true]at hc
     have hle:=Nat.le_of_ble_eq_true hc.2
     have h1:=Y0 hc.1.1 hs
     have h2:=Y0 hc.1.2 hq
     refine⟨_,.string (s'++q'),rfl,.str _ _ ?_,hg,?_⟩
     ·rw [ka,←hs,←hq]
      simp
     have: ¬(((s'.size+q'.size:Nat):Int)>IntKind.i64.max):=by
      rw [h1,h2]
      have hm:(IntKind.i64.max:Int)=9223372036854775807:=by decide
      rw [hm]
      unfold yN at hle
      omega
     simp only [binOp,Op.stringOp,if_neg this,Sem.run_pure]
   ·refine⟨z,?_⟩
    cases e:(bif qv s q then some true else bif zZ s && zZ q then some false else none:Option Bool)with
    |none=>
     exfalso
     cases e1:qv s q with
     |true=>rw [e1]at e;cases e
     |false=>rw [e1]at e hz;cases e2:zZ s && zZ q with
      |true=>rw [e2]at e;cases e
      |false=>rw [e2]at hz;cases hz
    |some c=>
     have hz':z= .bool c:=by
      cases e1:qv s q with
      |true=>rw [e1]at e hz;cases e;cases hz;rfl
      |false=>rw [e1]at e hz;cases e2:zZ s && zZ q with
       |true=>rw [e2]at e hz;cases e;cases hz;rfl
       |false=>rw [e2]at hz;cases hz
     subst hz'
     exact⟨.bool c,rfl,.bool c,hg,by simp only [binOp,Op.stringOp,Sem.run_pure,dw hs hq e]⟩
   ·refine⟨z,?_⟩
    cases e:(bif qv s q then some true else bif zZ s && zZ q then some false else none:Option Bool)with
    |none=>
     exfalso
     cases e1:qv s q with
     |true=>rw [e1]at e;cases e
     |false=>rw [e1]at e hz;cases e2:zZ s && zZ q with
      |true=>rw [e2]at e;cases e
      |false=>rw [e2]at hz;cases hz
    |some c=>
     have hz':z= .bool (!c):=by
      cases e1:qv s q with
      |true=>rw [e1]at e hz;cases e;cases hz;rfl
      |false=>rw [e1]at e hz;cases e2:zZ s && zZ q with
       |true=>rw [e2]at e hz;cases e;cases hz;rfl
       |false=>rw [e2]at hz;cases hz
     subst hz'
     exact⟨.bool (!c),rfl,.bool (!c),hg,by simp only [binOp,Op.stringOp,Sem.run_pure,dw hs hq e]⟩
   cases hz
  rename_i hni hns
  have hni': ∀k s j r,¬(a= .int k s∧b= .int j r):=fun k s j r e=>hni k s j r e.1 e.2
  have hns': ∀s r,¬(a= .str s∧b= .str r):=fun s r e=>hns s r e.1 e.2
  split at hz
  ·cases hc:km P t (tG x||tG y) a b with
   |false=>rw [hc]at hz;cases hz
   |true=>
    rw [hc]at hz
    simp only [cond_true]at hz
    split at hz
    ·rename_i c he
     cases hz
     have:=Wb (P:=P) (B:=B) (w0:=w0) (H:=H) hF 60 t a b c he u v w hW ha hb 10000 (by decide)
     exact⟨_,.bool c,rfl,.bool c,GA hc ha hb w,by simpa using xV (op:= .eql) (.inl rfl) ha hb hni' hns' this⟩
    cases hz
  ·cases hc:km P t (tG x||tG y) a b with
   |false=>rw [hc]at hz;cases hz
   |true=>
    rw [hc]at hz
    simp only [cond_true]at hz
    split at hz
    ·rename_i c he
     cases hz
     have:=Wb (P:=P) (B:=B) (w0:=w0) (H:=H) hF 60 t a b c he u v w hW ha hb 10000 (by decide)
     exact⟨_,.bool (!c),rfl,.bool (!c),GA hc ha hb w,by simpa using xV (op:= .neq) (.inr rfl) ha hb hni' hns' this⟩
    cases hz
  cases hz
 cases h
theorem p9 (hF:GG F V.ρ) {op:UnOp} {a:OV} {r:zH} {u:Value} (ha: ∀z,a=some z→zL V z u) (h:pi F op a H=some r) (w:World):
 ∃z z',r= .val z H∧zL V z z'∧(Op.unary op u).run P w= .ok z' w:=by
 unfold pi at h
 split at h
 ·rename_i a
  replace ha:=ha _ rfl
  obtain⟨z,hz,rfl⟩:=yq h
  unfold D1 at hz
  split at hz
  ·cases ha;cases hz;exact⟨_,_,rfl,.bool _,by simp [Op.unary]⟩
  ·rename_i k s
   obtain rfl:=ha.inv_int
   split at hz
   ·rename_i q hq
    split at hz
    ·rename_i q' hq'
     cases hz
     refine⟨_,.int k (q'.ev V.ρ),rfl,.int k q',?_⟩
     rw [zU.wrap_ev hF hq',zU.sub_ev hq]
     simp [Op.unary,Op.intArith,zU.ev]
    cases hz
   cases hz
  ·rename_i k z'
   obtain rfl:=ha.inv_int
   cases hk:QN k z' with
   |false=>rw [hk]at hz;cases hz
   |true=>
    rw [hk]at hz
    simp only [cond_true]at hz
    have hkk:=(wq k z').1 hk
    have key: ∀(n:Nat) (m:Nat),m<2^n→((BitVec.ofInt n (2^n-1))^^^(BitVec.ofInt n (m:Int))).toNat=2^n-1-m:=by
     intro n m hm
     have e1:BitVec.ofInt n ((2:Int)^n-1)=BitVec.allOnes n:=by
      apply BitVec.eq_of_toNat_eq
      rw [BitVec.toNat_allOnes,BitVec.toNat_ofInt]
      have hp:1≤2^n:=Nat.one_le_two_pow
      have:((2:Int)^n-1)=((2^n-1:Nat):Int):=by rw [Int.ofNat_sub hp,Int.natCast_pow];rfl
      rw [this]
      have:(((2^n-1:Nat):Int)%((2^n:Nat):Int))=((2^n-1:Nat):Int):=by
       rw [←Int.natCast_emod,Nat.mod_eq_of_lt (by omega)]
      rw [this];rfl
     rw [e1,BitVec.allOnes_xor,BitVec.toNat_not,BitVec.ofInt_natCast,BitVec.toNat_ofNat,Nat.mod_eq_of_lt hm]
    split at hz<;>first
     |(cases hz;done)
     |skip
    all_goals
     cases hz
     simp only [Qs,gR]at hkk
     obtain⟨m,rfl⟩:=Int.eq_ofNat_of_zero_le hkk.1
     refine⟨_,_,rfl,.int _ (.lit _),?_⟩
     simp only [Op.unary,Op.intBits,zU.ev,IntKind.signed,Bool.false_eq_true,if_false,Sem.run_pure]
    ·have hm:IntKind.max .u8=(2:Int)^8-1:=by decide
     have e:(BitVec.ofInt (IntKind.bits .u8) (IntKind.max .u8)^^^BitVec.ofInt (IntKind.bits .u8) (m:Int)).toNat=2^8-1-m:=by
      rw [hm];exact key 8 m (by omega)
     rw [e,uy ((wq _ _).2 ⟨by simp only [Qs];omega,by simp only [gR,Nat.reducePow];omega⟩)]
     congr 2
     simp only [gR,Nat.reducePow]
     omega
    ·have hm:IntKind.max .u16=(2:Int)^16-1:=by decide
     have e:(BitVec.ofInt (IntKind.bits .u16) (IntKind.max .u16)^^^BitVec.ofInt (IntKind.bits .u16) (m:Int)).toNat=2^16-1-m:=by
      rw [hm];exact key 16 m (by omega)
     rw [e,uy ((wq _ _).2 ⟨by simp only [Qs];omega,by simp only [gR,Nat.reducePow];omega⟩)]
     congr 2
     simp only [gR,Nat.reducePow]
     omega
    ·have hm:IntKind.max .u32=(2:Int)^32-1:=by decide
     have e:(BitVec.ofInt (IntKind.bits .u32) (IntKind.max .u32)^^^BitVec.ofInt (IntKind.bits .u32) (m:Int)).toNat=2^32-1-m:=by
      rw [hm];exact key 32 m (by omega)
     rw [e,uy ((wq _ _).2 ⟨by simp only [Qs];omega,by simp only [gR,Nat.reducePow];omega⟩)]
     congr 2
     simp only [gR,Nat.reducePow]
     omega
    have hm:IntKind.max .u64=(2:Int)^64-1:=by decide
    have e:(BitVec.ofInt (IntKind.bits .u64) (IntKind.max .u64)^^^BitVec.ofInt (IntKind.bits .u64) (m:Int)).toNat=2^64-1-m:=by
     rw [hm];exact key 64 m (by omega)
    rw [e,uy ((wq _ _).2 ⟨by simp only [Qs];omega,by simp only [gR,Nat.reducePow];omega⟩)]
    congr 2
    simp only [gR,Nat.reducePow]
    omega
  cases hz
 cases h
theorem kD (hF:GG F V.ρ) {s d:TypeId} {a:OV} {r:zH} {u:Value} (ha: ∀z,a=some z→zL V z u) (h:G6 P F s d a H=some r) (w:World):
 ∃z z',r= .val z H∧zL V z z'∧(convert s d u).run P w= .ok z' w:=by
 unfold G6 at h
 split at h
 ·rename_i a
  replace ha:=ha _ rfl
  obtain⟨z,hz,rfl⟩:=yq h
  unfold c5 at hz
  split at hz
  ·rename_i k q
   obtain rfl:=ha.inv_int
   split at hz
   ·rename_i k1 k2 h1 h2
    split at hz
    ·rename_i q' hq
     cases hz
     refine⟨_,.int k2 (q'.ev V.ρ),rfl,.int k2 q',?_⟩
     rw [zU.wrap_ev hF hq]
     simp [convert,zK h1,zK h2,Conv.intToInt]
    cases hz
   cases hz
  ·rename_i q
   obtain⟨b,rfl,hb⟩:=ha.inv_str
   split at hz
   ·rename_i h1 h2
    cases hz
    exact⟨_,.string b,rfl,.str q b hb,by simp [convert,zK h1,zK h2]⟩
   cases hz
  cases hz
 cases h
end Go.Px
end
section
namespace Go.Px
open Go Go.RowKit
variable {P:Program} {F:z9} {V:qS} {B:Nat} {w0 w:World} {H:Hp}
inductive ZT (V:qS):Option AVal→Option Value→Prop
 |none:ZT V none none
 |some {a v} (h:zL V a v):ZT V (some a) (some v)
theorem YQ {v:Value} {k:IntKind} {n y:Nat} (hv:v= .int k (n:Int)) (hy:n≤y) (c:BoundsCode) (w:World):(Instr.sliceBound v y c).run P w= .ok n w:=by
 subst hv
 simp only [Instr.sliceBound,asIntOf,Sem.run_bind,Sem.run_pure,Result.andThen_ok]
 rw [if_pos ⟨by omega,by omega⟩]
 simp
theorem vY {len cap:Nat} {cap':Option Nat} (hc: ∀c,cap'=some c→cap=c) (hl:len≤cap) {lo hi mx:Option AVal} {vl vh vm:Option Value}
 (h1:ZT V lo vl) (h2:ZT V hi vh) (h3:ZT V mx vm) {l h:Nat} {m:Option Nat} (hb:yv len cap' lo hi mx=some (l,h,m)) (isS:Bool) (w:World):
 ∃M,(Instr.sliceBounds isS len cap vl vh vm).run P w= .ok (l,h,M) w∧(∀c,m=some c→M=c)∧(m=none→M=cap∧h≤len)∧l≤h∧h≤M∧M≤cap:=by
 unfold yv at hb
 split at hb
 ·cases hb
 rename_i hno
 split at hb
 ·cases hb
 rename_i m' hm
 split at hb
 ·cases hb
 rename_i h' hh
 split at hb
 ·cases hb
 rename_i l' hl'
 cases hb
 have key: ∃M,(match vm with
  |some v=>Instr.sliceBound v cap (if isS then .slice3Acap else .slice3Alen)
  |none=>pure cap:Sem Nat).run P w= .ok M w∧(∀c,m=some c→M=c)∧(m=none→M=cap)∧M≤cap∧wI len m≤M:=by
  cases h3 with
  |none=>
   cases hm
   refine⟨cap,rfl,fun c hc'=>hc c hc',fun _=>rfl,Nat.le_refl _,?_⟩
   cases cap' with
   |some c=>exact Nat.le_of_eq (hc c rfl).symm
   |none=>exact hl
  |some hv=>
   unfold j4 at hm
   simp only at hm
   split at hm
   ·rename_i n hn
    cases hle:Nat.ble n (wI len cap')with
    |false=>rw [hle]at hm;cases hm
    |true=>
     rw [hle]at hm
     cases hm
     have hle:=Nat.le_of_ble_eq_true hle
     have hle':n≤cap:=by
      cases cap' with
      |some c=>have:=hc c rfl;simp only [wI]at hle;omega
      |none=>simp only [wI]at hle;omega
     obtain⟨k,hk⟩:=wA hn hv
     exact⟨n,YQ hk hle' _ w,(fun c hc'=>by cases hc';rfl),(fun h=>nomatch h),hle',Nat.le_refl _⟩
   cases hm
 obtain⟨M,r1,hM1,hM2,hM3,hM4⟩:=key
 have keyh:(h≤wI len m)∧(match vh,vm with
  |some v,some _=>Instr.sliceBound v M .slice3B
  |some v,none=>Instr.sliceBound v M (if isS then .sliceAcap else .sliceAlen)
  |none,none=>pure len
  |none,some _=>stuck "Slice: max without high" :Sem Nat).run P w= .ok h w:=by
  cases h2 with
  |none=>
   cases hh
   cases h3 with
   |none=>
    cases hm
    refine⟨?_,rfl⟩
    cases cap' with
    |some c=>have:=hc c rfl;show len≤c;omega
    |none=>exact Nat.le_refl _
   |some hv=>exact absurd rfl (hno _ rfl)
  |some hv=>
   simp only [wR]at hh
   split at hh
   ·rename_i n hn
    cases hle:Nat.ble n (wI len m)with
    |false=>rw [hle]at hh;cases hh
    |true=>
     rw [hle]at hh
     cases hh
     have hle:=Nat.le_of_ble_eq_true hle
     obtain⟨k,hk⟩:=wA hn hv
     refine⟨hle,?_⟩
     cases h3 with
     |none=>exact YQ hk (Nat.le_trans hle hM4) _ w
     |some _=>exact YQ hk (Nat.le_trans hle hM4) _ w
   cases hh
 obtain⟨hhle,r2⟩:=keyh
 have keyl:l≤h∧(match vl with
  |some v=>Instr.sliceBound v h (if vm.isSome then .slice3C else .sliceB)
  |none=>pure 0:Sem Nat).run P w= .ok l w:=by
  cases h1 with
  |none=>cases hl';exact⟨Nat.zero_le _,rfl⟩
  |some hv=>
   simp only [wR]at hl'
   split at hl'
   ·rename_i n hn
    cases hle:Nat.ble n h with
    |false=>rw [hle]at hl';cases hl'
    |true=>
     rw [hle]at hl'
     cases hl'
     have hle:=Nat.le_of_ble_eq_true hle
     obtain⟨k,hk⟩:=wA hn hv
     exact⟨hle,YQ hk hle _ w⟩
   cases hl'
 obtain⟨hlh,r3⟩:=keyl
 refine⟨M,?_,hM1,fun e=>⟨hM2 e,by subst e;exact hhle⟩,hlh,Nat.le_trans hhle hM4,hM3⟩
 unfold Instr.sliceBounds
 cases vm<;>cases vh<;>cases vl<;>first
  |(exfalso;simp [stuck]at r2;done)
  |(simp only [Sem.run_pure,Result.ok.injEq,and_true]at r1 r2 r3;subst_vars;simp_all;done)
  |(simp_all;done)
end Go.Px
end
section
namespace Go.Px
open Go Go.RowKit
variable {P:Program} {F:z9} {V:qS} {B:Nat} {w0 w:World} {H:Hp}
theorem pn {len:Nat} {lo hi mx:Option AVal} {l h c:Nat} (hb:yv len none lo hi mx=some (l,h,some c)):c≤len:=by
 have he:j4 len none mx=some (some c):=by
  unfold yv at hb
  split at hb
  ·cases hb
  split at hb
  ·cases hb
  rename_i m hm
  split at hb
  ·cases hb
  split at hb
  ·cases hb
  cases hb;exact hm
 unfold j4 at he
 split at he
 ·cases he
 split at he
 ·rename_i n hn
  cases hle:Nat.ble n (wI len none)with
  |false=>rw [hle]at he;cases he
  |true=>rw [hle]at he;cases he;exact Nat.le_of_ble_eq_true hle
 cases he
theorem bI {cap:Option Nat} {lo hi mx:Option AVal} {l h c:Nat} (hb:yv 0 cap lo hi mx=some (l,h,some c)) (hc: ∀k,cap=some k→k=0):c=0:=by
 have he:j4 0 cap mx=some (some c):=by
  unfold yv at hb
  split at hb
  ·cases hb
  split at hb
  ·cases hb
  rename_i m hm
  split at hb
  ·cases hb
  split at hb
  ·cases hb
  cases hb;exact hm
 unfold j4 at he
 split at he
 ·exact hc c (Option.some.inj he)
 split at he
 ·rename_i n _
  cases hn:Nat.ble n (wI 0 cap)with
  |false=>rw [hn]at he;cases he
  |true=>
   rw [hn]at he
   have hn:=Nat.le_of_ble_eq_true hn
   have:wI 0 cap=0:=by
    unfold wI
    split
    ·exact hc _ rfl
    rfl
   cases he
   omega
 cases he
theorem so (hW:zt B w0 V H w) {i n b base S:Nat} (hi:H.row i=some n) (hb:V.blk i=some (b,base,S)):n≤S:=by
 unfold Hp.row at hi
 split at hi
 ·rename_i rw c m ho
  cases hi
  obtain⟨x,hx,hr⟩:=hW.obj i _ b base S ho hb
  cases hr with
  |cells _ _ _ _ _ _ arr el fz _ _ _ hn=>exact hn
 cases hi
theorem kh (hW:zt B w0 V H w) {t:TypeId} {x:AVal} {u:Value} {lo hi mx:Option AVal} {vl vh vm:Option Value}
 (hx:zL V x u) (h1:ZT V lo vl) (h2:ZT V hi vh) (h3:ZT V mx vm) {v:AVal} (h:wb P t H x lo hi mx=some v):
 ∃v',zL V v v'∧(Instr.sliceAt t u vl vh vm).run P w= .ok v' w:=by
 unfold wb at h
 split at h
 ·rename_i a len cap es
  split at h
  ·rename_i e hu
   split at h
   ·rename_i size l h' m hs hb
    cases hx with
    |sliceN es=>
     obtain⟨M,r,hM1,hM2,hlh,hhM,hMc⟩:=vY (P:=P) (cap:=0) (fun c hc=>by cases hc;rfl) (Nat.le_refl _) h1 h2 h3 hb true w
     cases m with
     |none=>cases h
     |some c=>
     cases h
     have:M=c:=hM1 c rfl
     subst this
     have e0:h'-l=0:=by omega
     have e3:M-l=0:=by omega
     rw [e0,e3]
     refine⟨.slice none 0 0,.sliceN es,?_⟩
     simp only [Instr.sliceAt,Sem.run_bind,zK hu,Result.andThen_ok,Instr.slice]
     rw [r]
     simp [yf hs,e0,e3]
    |slice i off _ _ _ b base S c hb' hl hc hS=>
     obtain⟨M,r,hM1,hM2,hlh,hhM,hMc⟩:=vY (P:=P) (cap:=c) hc hl h1 h2 h3 hb true w
     have run:(Instr.sliceAt t (.slice (some ⟨b,base+off,none⟩) len c) vl vh vm).run P w= .ok (.slice (if M=l then some ⟨b,base+off,none⟩else some ⟨b,base+off+l*size,none⟩) (h'-l) (M-l)) w:=by
      simp only [Instr.sliceAt,Sem.run_bind,zK hu,Result.andThen_ok,Instr.slice]
      rw [r]
      simp [yf hs,wW]
     have mul_le: ∀k,k≤c→k*es≤c*es:=fun k hk=>Nat.mul_le_mul_right es hk
     cases m with
     |some c'=>
      simp only at h
      have:M=c':=hM1 c' rfl
      subst this
      cases hes:Nat.beq es size with
      |false=>rw [hes]at h;cases h
      |true=>
       rw [hes]at h
       have hes:=Nat.eq_of_beq_eq_true hes
       subst hes
       simp only [cond_true]at h
       cases hcl:Nat.beq M l with
       |true=>
        rw [hcl]at h
        have hcl:=Nat.eq_of_beq_eq_true hcl
        cases h
        refine⟨_,?_,run⟩
        rw [if_pos hcl]
        refine .slice i off _ _ es b base S (M-l) hb' (by omega) (fun k hk=>by cases hk;rfl) ?_
        have:M-l=0:=by omega
        rw [this];have:=mul_le 0 (Nat.zero_le _);omega
       |false=>
        rw [hcl]at h
        cases h
        have hne:M≠l:=fun e=>by rw [e,Nat.beq_refl]at hcl;cases hcl
        refine⟨_,?_,run⟩
        rw [if_neg hne,Nat.add_assoc]
        refine .slice i (off+l*es) _ _ es b base S (M-l) hb' (by omega) (fun k hk=>by cases hk;rfl) ?_
        have e1:l*es+(M-l)*es=M*es:=by rw [←Nat.add_mul];congr 1;omega
        have:=mul_le M hMc
        omega
     |none=>
      simp only at h
      obtain⟨hMc2,hhl⟩:=hM2 rfl
      cases hes:Nat.beq es size with
      |false=>rw [hes]at h;cases h
      |true=>
       rw [hes]at h
       have hes:=Nat.eq_of_beq_eq_true hes
       subst hes
       simp only [cond_true]at h
       cases hcl:Nat.beq len l with
       |true=>
        rw [hcl]at h
        have hcl:=Nat.eq_of_beq_eq_true hcl
        cases h
        have e0:h'-l=0:=by omega
        refine⟨_,?_,run⟩
        rw [e0]
        have e1:l*es+(M-l)*es=M*es:=by rw [←Nat.add_mul];congr 1;omega
        have e2:=mul_le M hMc
        by_cases hM:M=l
        ·rw [if_pos hM]
         refine .sliceE i _ es b base S (base+off) (M-l) none hb' (fun k hk=>by cases hk) (by omega) ?_
         rw [hM,Nat.sub_self,Nat.zero_mul];omega
        rw [if_neg hM]
        exact .sliceE i _ es b base S (base+off+l*es) (M-l) none hb' (fun k hk=>by cases hk) (by omega) (by omega)
       |false=>
        rw [hcl]at h
        cases h
        have hne:len≠l:=fun e=>by rw [e,Nat.beq_refl]at hcl;cases hcl
        refine⟨_,?_,run⟩
        rw [if_neg (by omega),Nat.add_assoc]
        refine .slice i (off+l*es) _ _ es b base S (M-l) hb' (by omega) (fun k hk=>by cases hk) ?_
        have e1:l*es+(M-l)*es=M*es:=by rw [←Nat.add_mul];congr 1;omega
        have:=mul_le M hMc
        omega
    |sliceR i off _ _ _ b base S c a hb' hbl hl hc ha=>
     obtain⟨M,r,hM1,hM2,hlh,hhM,hMc⟩:=vY (P:=P) (cap:=c) hc hl h1 h2 h3 hb true w
     have run:(Instr.sliceAt t (.slice (some a) len c) vl vh vm).run P w= .ok (.slice (if M=l then some a else some (a.add (l*size))) (h'-l) (M-l)) w:=by
      simp only [Instr.sliceAt,Sem.run_bind,zK hu,Result.andThen_ok,Instr.slice]
      rw [r]
      simp [yf hs]
     have run':(Instr.sliceAt t (.slice (some a) len c) vl vh vm).run P w= .ok (.slice (some (if M=l then a else a.add (l*size))) (h'-l) (M-l)) w:=by
      rw [run];congr 2;split<;>rfl
     cases m with
     |some c'=>
      simp only at h
      have:M=c':=hM1 c' rfl
      subst this
      cases hes:Nat.beq es size with
      |false=>rw [hes]at h;cases h
      |true=>
       rw [hes]at h
       have hes:=Nat.eq_of_beq_eq_true hes
       subst hes
       simp only [cond_true]at h
       cases hcl:Nat.beq M l with
       |true=>
        rw [hcl]at h
        have hcl:=Nat.eq_of_beq_eq_true hcl
        cases h
        refine⟨_,?_,run'⟩
        exact .sliceR i off _ _ es b base S (M-l) _ hb' hbl (by omega) (fun k hk=>by cases hk;rfl) (fun h=>by rcases h with h|⟨k,hk,h⟩;exact absurd h (by omega);cases hk;exact absurd h (by omega))
       |false=>
        rw [hcl]at h
        cases h
        have hne:M≠l:=fun e=>by rw [e,Nat.beq_refl]at hcl;cases hcl
        refine⟨_,?_,run'⟩
        refine .sliceR i (off+l*es) _ _ es b base S (M-l) _ hb' hbl (by omega) (fun k hk=>by cases hk;rfl) (fun h0=> ?_)
        clear h0
        obtain rfl:=ha (by
         cases cap with
         |none=>exact .inl (by have:=pn hb;omega)
         |some k=>exact .inr ⟨k,rfl,by have:=hc k rfl;omega⟩)
        rw [if_neg (by omega),wW,Nat.add_assoc]
     |none=>
      simp only at h
      obtain⟨hMc2,hhl⟩:=hM2 rfl
      cases hes:Nat.beq es size with
      |false=>rw [hes]at h;cases h
      |true=>
       rw [hes]at h
       have hes:=Nat.eq_of_beq_eq_true hes
       subst hes
       simp only [cond_true]at h
       cases hcl:Nat.beq len l with
       |true=>
        rw [hcl]at h
        have hcl:=Nat.eq_of_beq_eq_true hcl
        cases h
        have e0:h'-l=0:=by omega
        refine⟨_,?_,run'⟩
        rw [e0]
        exact .sliceR i _ 0 none es b base S (M-l) _ hb' hbl (Nat.zero_le _) (fun k hk=>by cases hk) (fun h=>by rcases h with h|⟨k,hk,_⟩;exact absurd h (Nat.lt_irrefl 0);cases hk)
       |false=>
        rw [hcl]at h
        cases h
        have hne:len≠l:=fun e=>by rw [e,Nat.beq_refl]at hcl;cases hcl
        refine⟨_,?_,run'⟩
        refine .sliceR i (off+l*es) _ none es b base S (M-l) _ hb' hbl (by omega) (fun k hk=>by cases hk) (fun h0=> ?_)
        replace h0:0<h'-l:=h0.resolve_right (fun⟨k,hk,_⟩=>by cases hk)
        obtain rfl:=ha (.inl (by omega))
        rw [if_neg (by omega),wW,Nat.add_assoc]
    |sliceE i off _ b base S o c _ hb' hc ho hS=>
     obtain⟨M,r,hM1,hM2,hlh,hhM,hMc⟩:=vY (P:=P) (cap:=c) (fun k hk=>by have:=hc k hk;omega) (Nat.zero_le _) h1 h2 h3 hb true w
     have run:(Instr.sliceAt t (.slice (some ⟨b,o,none⟩) 0 c) vl vh vm).run P w= .ok (.slice (if M=l then some ⟨b,o,none⟩else some ⟨b,o+l*size,none⟩) (h'-l) (M-l)) w:=by
      simp only [Instr.sliceAt,Sem.run_bind,zK hu,Result.andThen_ok,Instr.slice]
      rw [r]
      simp [yf hs,wW]
     cases m with
     |some c'=>
      simp only at h
      have:M=c':=hM1 c' rfl
      subst this
      have hM0:=bI hb (fun k hk=>(hc k hk).1)
      subst hM0
      have el:l=0:=by omega
      have eh:h'=0:=by omega
      subst el eh
      cases hes:Nat.beq es size with
      |false=>rw [hes]at h;cases h
      |true=>
       rw [hes]at h
       cases h
       refine⟨_,?_,run⟩
       rw [if_pos rfl]
       exact .sliceE i off es b base S o 0 (some 0) hb' (fun k hk=>by cases hk;exact⟨rfl,rfl⟩) ho (by rw [Nat.zero_mul];have:=Nat.zero_le (c*es);omega)
     |none=>
      simp only at h
      obtain⟨hMc2,hhl⟩:=hM2 rfl
      have el:l=0:=by omega
      have eh:h'=0:=by omega
      subst el eh
      cases hes:Nat.beq es size with
      |false=>rw [hes]at h;cases h
      |true=>
       rw [hes]at h
       have hes:=Nat.eq_of_beq_eq_true hes
       subst hes
       cases h
       refine⟨_,?_,run⟩
       have e2:(if M=0 then some (⟨b,o,none⟩:Addr)else some ⟨b,o+0*es,none⟩)=some ⟨b,o,none⟩:=by split<;>simp
       rw [e2,hMc2]
       exact .sliceE i _ es b base S o (c-0) none hb' (fun k hk=>by cases hk) ho hS
   cases h
  cases h
 ·rename_i i off
  obtain⟨b,base,S,hb',rfl⟩:=hx.inv_ptr
  split at h
  ·rename_i n e hu
   split at h
   ·rename_i size l h' c hs hb
    obtain⟨M,r,hM1,hM2,hlh,hhM,hMc⟩:=vY (P:=P) (cap:=n) (fun c hc=>by cases hc;rfl) (Nat.le_refl _) h1 h2 h3 hb false w
    have:M=c:=hM1 c rfl
    subst this
    split at h
    ·rename_i rows hrow
     cases hle:Nat.ble (off+n*size) rows with
     |false=>rw [hle]at h;cases h
     |true=>
      rw [hle]at h
      cases h
      have hle:=Nat.le_of_ble_eq_true hle
      have hS:=so hW hrow hb'
      have run:(Instr.sliceAt t (.pointer (some ⟨b,base+off,none⟩)) vl vh vm).run P w= .ok (.slice (some (if M=l then⟨b,base+off,none⟩else⟨b,base+off+l*size,none⟩)) (h'-l) (M-l)) w:=by
       simp only [Instr.sliceAt,Sem.run_bind,zK hu,Result.andThen_ok,Instr.sureAddr,Sem.run_pure]
       rw [r]
       simp [yf hs,wW]
      have hMn:M*size≤n*size:=Nat.mul_le_mul_right size hMc
      refine⟨_,?_,run⟩
      cases hcl:Nat.beq M l with
      |true=>
       have hcl:=Nat.eq_of_beq_eq_true hcl
       rw [if_pos hcl]
       refine .slice i off _ _ size b base S (M-l) hb' (by omega) (fun k hk=>by cases hk;rfl) ?_
       have:M-l=0:=by omega
       rw [this];omega
      |false=>
       have hne:M≠l:=fun e=>by rw [e,Nat.beq_refl]at hcl;cases hcl
       rw [if_neg hne,Nat.add_assoc]
       refine .slice i (off+l*size) _ _ size b base S (M-l) hb' (by omega) (fun k hk=>by cases hk;rfl) ?_
       have e1:l*size+(M-l)*size=M*size:=by rw [←Nat.add_mul];congr 1;omega
       omega
    cases h
   cases h
  cases h
 ·rename_i s
  obtain⟨q,rfl,hq⟩:=hx.inv_str
  split at h
  ·rename_i hu
   split at h
   ·cases h
   cases hb8:zZ s with
   |false=>rw [hb8]at h;cases h
   |true=>
    rw [hb8]at h
    simp only [cond_true]at h
    split at h
    ·rename_i l h' c hb
     cases h
     cases h3
     have hsz:=Y0 hb8 hq
     obtain⟨M,r,hM1,hM2,hlh,hhM,hMc⟩:=vY (P:=P) (cap:=s.length) (fun c hc=>by cases hc;rfl) (Nat.le_refl _) h1 h2 .none hb false w
     refine⟨.string (q.extract l h'),.str _ _ ?_,?_⟩
     ·rw [gn _ _ ((yz _).1 hb8)]at hq
      rw [gn _ _ (fun n hn=>(yz _).1 hb8 n (List.mem_of_mem_drop (List.mem_of_mem_take hn)))]
      have:(q.extract l h').data.toList=(q.data.toList.drop l).take (h'-l):=by
       rw [ByteArray.data_extract,Array.toList_extract,List.extract_eq_take_drop]
      rw [this,hq]
      simp [List.map_take,List.map_drop]
     simp only [Instr.sliceAt,Sem.run_bind,zK hu,Result.andThen_ok,Instr.slice,Option.isSome,Bool.false_eq_true,if_false,hsz]
     rw [r]
     rfl
    cases h
  cases h
 cases h
end Go.Px
end
section
namespace Go.Px
open Go Go.RowKit
variable {P:Program} {F:z9} {V:qS} {B:Nat} {w0 w:World} {H:Hp}
theorem Jr {kt:TypeId} {k:AVal} {u:Value} (h:wM P kt k=true) (hk:zL V k u) (b:Bool) (n:Nat) (w:World):(Instr.checkKey b (n+2) kt u).run P w= .ok () w:=by
 unfold wM at h
 split at h
 ·obtain rfl:=hk.inv_int
  split at h
  ·rename_i e;simp [Instr.checkKey,zK e]
  cases h
 ·obtain rfl:=hk.inv_bool
  split at h
  ·rename_i e;simp [Instr.checkKey,zK e]
  cases h
 ·obtain⟨s,rfl,_⟩:=hk.inv_str
  split at h
  ·rename_i e;simp [Instr.checkKey,zK e]
  cases h
 ·rename_i cs
  obtain⟨x,rfl,hl,hc⟩:=hk.inv_agg
  split at h
  ·rename_i fs e
   rw [Instr.checkKey]
   simp only [Sem.run_bind,zK e,Result.andThen_ok]
   rw [←Array.forIn_toList]
   have key: ∀(l:List Field),(l.all fun f=>match jP P f.type cs f.offset with
    |some (.int _ _)=>match yO P f.type with
     |some (.int _)=>true
     |_=>false
    |some (.bool _)=>match yO P f.type with
     |some .bool=>true
     |_=>false
    |_=>false)=true→(forIn l PUnit.unit (fun f _=>do
     if f.name≠ "_" then
      let x←part f.type x f.offset
      Instr.checkKey b (n+1) f.type x
      pure (.yield PUnit.unit)
     else pure (.yield PUnit.unit):Field→PUnit→Sem (ForInStep PUnit))).run P w= .ok PUnit.unit w:=by
    intro l
    induction l with
    |nil=>intro _;simp
    |cons f l ih=>
     intro hh
     rw [List.all_cons,Bool.and_eq_true]at hh
     rw [List.forIn_cons]
     simp only [Sem.run_bind,Sem.run_ite]
     split
     ·have h1:=hh.1
      split at h1
      ·rename_i k' s hp
       obtain⟨v',r,e'⟩:=vS hp hl hc w
       obtain rfl:=r.inv_int
       split at h1
       ·rename_i e2
        simp only [Sem.run_bind,e',Result.andThen_ok,Instr.checkKey,zK e2,Sem.run_pure]
        exact ih hh.2
       cases h1
      ·rename_i b' hp
       obtain⟨v',r,e'⟩:=vS hp hl hc w
       obtain rfl:=r.inv_bool
       split at h1
       ·rename_i e2
        simp only [Sem.run_bind,e',Result.andThen_ok,Instr.checkKey,zK e2,Sem.run_pure]
        exact ih hh.2
       cases h1
      cases h1
     simp only [Sem.run_pure,Result.andThen_ok]
     exact ih hh.2
   refine(congrArg (fun r=>Result.andThen r _) (key fs.toList h)).trans ?_
   rfl
  cases h
 cases h
def ph (V:qS) (es:List vD) (ms:List MapEntry):Prop:=es.length=ms.length∧ ∀(i:Nat) e m,es[i]? =some e→ms[i]? =some m→AG V e m
theorem ph.tail {e:vD} {es:List vD} {m:MapEntry} {ms:List MapEntry} (h:ph V (e::es) (m::ms)):AG V e m∧ph V es ms:=
 ⟨h.2 0 e m (by simp) (by simp),by simpa using h.1,fun i a b ha hb=>h.2 (i+1) a b (by simpa using ha) (by simpa using hb)⟩
theorem qx {kt:TypeId} {k:AVal} {u:Value} (h:wM P kt k=true) (hk:zL V k u) (b:Bool) (w:World):(Instr.checkKey b 10000 kt u).run P w= .ok () w:=
 Jr h hk b 9998 w
theorem U2 {d:TypeDesc} {kt:TypeId} {u v:Value} {b c:Bool} (hd:P.underlying kt=some d) (hs:Instr.sameNow d u v=some b) (hr:(Op.equalIn 10000 kt u v).run P w= .ok c w):b=c:=by
 unfold Instr.sameNow at hs
 split at hs
 ·rename_i k0 k a k' b'
  split at hs
  ·rename_i e
   subst e
   cases hs
   have:(Op.equalIn (9999+1) kt (.int k a) (.int k b')).run P w=_:=run_equalIn_int w 9999 kt k k0 a b' hd
   have:=this.symm.trans hr
   cases this
   rfl
  cases hs
 ·rename_i a b'
  cases hs
  have:(Op.equalIn (9999+1) kt (.string a) (.string b')).run P w=_:=run_equalIn_string w 9999 kt a b' hd
  have:=this.symm.trans hr
  cases this
  exact beq_toListBytes a b'
 ·rename_i a b'
  cases hs
  have:(Op.equalIn (9999+1) kt (.bool a) (.bool b')).run P w=_:=run_equalIn_bool' w 9999 kt a b' hd
  have:=this.symm.trans hr
  cases this
  rfl
 cases hs
theorem pF (hF:GG F V.ρ) (hW:zt B w0 V H w) {kt:TypeId} {d:TypeDesc} (hd:P.underlying kt=some d) {k:AVal} {u:Value} (hk:zL V k u):
 ∀(es:List vD) (ms:List MapEntry) (i:Nat) (r:Option (Nat×vD)),ph V es ms→uO (Yb P F H 3 kt) k es i=some r→
  ∃q,(Instr.findAsking kt u ms i).run P w= .ok q w∧(∀q',Instr.findNow d u ms i=some q'→q'=q)∧
   ((r=none∧q=none)∨ ∃j e m,r=some (j,e)∧q=some (j,m.val)∧i≤j∧es[j-i]? =some e∧ms[j-i]? =some m):=by
 intro es
 induction es with
 |nil=>
  intro ms i r hm h
  cases h
  have:ms= []:=by have:=hm.1;cases ms<;>simp_all
  subst this
  exact⟨none,by simp [Instr.findAsking],fun q' h=>by simp [Instr.findNow]at h;exact h.symm,.inl ⟨rfl,rfl⟩⟩
 |cons e es ih=>
  intro ms i r hm h
  cases ms with
  |nil=>have:=hm.1;simp at this
  |cons m ms=>
   obtain⟨he,ht⟩:=hm.tail
   simp only [uO]at h
   cases hc:Yb P F H 3 kt k e.key with
   |none=>rw [hc]at h;cases h
   |some c=>
    rw [hc]at h
    have hr:=Wb (P:=P) (B:=B) (w0:=w0) (H:=H) hF 3 kt k e.key c hc u m.key w hW hk he.key 10000 (by decide)
    have hr':(Op.equal kt u m.key).run P w= .ok c w:=hr
    cases c with
    |true=>
     cases h
     refine⟨some (i,m.val),by simp [Instr.findAsking,hr'],fun q' hq=> ?_,.inr ⟨i,e,m,rfl,rfl,Nat.le_refl _,by simp,by simp⟩⟩
     simp only [Instr.findNow]at hq
     split at hq
     ·cases hq;rfl
     ·rename_i e1
      have:=U2 hd e1 hr
      cases this
     cases hq
    |false=>
     obtain⟨q,h1,h2,h3⟩:=ih ms (i+1) r ht h
     refine⟨q,by simp [Instr.findAsking,hr',h1],fun q' hq=> ?_,?_⟩
     ·simp only [Instr.findNow]at hq
      split at hq
      ·rename_i e1
       have:=U2 hd e1 hr
       cases this
      ·exact h2 q' hq
      cases hq
     rcases h3 with h3|⟨j,e',m',a1,a2,a3,a4,a5⟩
     ·exact .inl h3
     refine .inr ⟨j,e',m',a1,a2,by omega,?_,?_⟩
     ·rw [show j-i=(j-(i+1))+1 by omega];simpa using a4
     rw [show j-i=(j-(i+1))+1 by omega];simpa using a5
theorem wQ (hF:GG F V.ρ) (hW:zt B w0 V H w) {kt:TypeId} {k:AVal} {u:Value} (hk:zL V k u) (hfit:wM P kt k=true) {es:List vD} {ms:List MapEntry} {r:Option (Nat×vD)}
 (hm:ph V es ms) (h:uO (Yb P F H 3 kt) k es 0=some r):
 ∃q,(Instr.findKey kt u ms).run P w= .ok q w∧((r=none∧q=none)∨ ∃j e m,r=some (j,e)∧q=some (j,m.val)∧es[j]? =some e∧ms[j]? =some m):=by
 have hd: ∃d,P.underlying kt=some d:=by
  unfold wM yO at hfit
  cases hu:P.underlying kt with
  |none=>rw [hu]at hfit;split at hfit<;>cases hfit
  |some d=>exact⟨d,rfl⟩
 obtain⟨d,hd⟩:=hd
 obtain⟨q,h1,h2,h3⟩:=pF hF hW hd hk es ms 0 r hm h
 refine⟨q,?_,?_⟩
 ·simp only [Instr.findKey,Sem.run_bind,run_underlying hd,Result.andThen_ok]
  cases hn:Instr.findNow d u ms 0 with
  |none=>exact h1
  |some q'=>rw [h2 q' hn];rfl
 rcases h3 with h3|⟨j,e,m,a1,a2,_,a4,a5⟩
 ·exact .inl h3
 exact .inr ⟨j,e,m,a1,a2,by simpa using a4,by simpa using a5⟩
theorem gu (hW:zt B w0 V H w) {i b base S clock:Nat} {es:List vD} (hb:V.blk i=some (b,base,S)) (h:H.mapAt i=some (es,clock)):
 H.t.get i=some (.map es clock)∧ ∃ms,w.heap[b]? =some (.map ms clock)∧ph V es ms.toList∧B≤b:=by
 unfold Hp.mapAt at h
 split at h
 ·rename_i es' k ho
  cases h
  obtain⟨x,hx,hr⟩:=hW.obj i _ b base S ho hb
  cases hr with
  |map _ _ _ _ _ ms hB hl he=>exact⟨ho,ms,hx,⟨by simpa using hl,fun i e m h1 h2=>he i e m h1 (by simpa using h2)⟩,hB⟩
 cases h
theorem zL.inv_map {i:Nat} {v:Value} (h:zL V (.map (some i)) v): ∃b base S,V.blk i=some (b,base,S)∧v= .map (some b):=by
 cases h with
 |map _ b base S h=>exact⟨b,base,S,h,rfl⟩
theorem wS {b:Nat} {ms:Array MapEntry} {clock:Nat} (h:w.heap[b]? =some (.map ms clock)):(getObj b).run P w= .ok (.map ms clock) w:=by
 simp [getObj,Sem.run,h]
theorem pR {t kt et:TypeId} (hu:yO P t=some (.map kt et)) {u z zv:Value} {ms:Array MapEntry} (hsrc:(u= .map none∧ms= #[])∨ ∃b clock,u= .map (some b)∧w.heap[b]? =some (.map ms clock))
 (hc: ∀b,(Instr.checkKey b 10000 kt z).run P w= .ok () w) {q:Option (Nat×Value)} (hq:(Instr.findKey kt z ms.toList).run P w= .ok q w) (hz:(zeroValue et).run P w= .ok zv w) (ok:Bool):
 (Instr.lookup t u z ok).run P w= .ok (match q with
  |some (_,v)=>if ok then .tuple #[v,.bool true]else v
  |none=>if ok then .tuple #[zv,.bool false]else zv) w:=by
 rcases hsrc with⟨rfl,rfl⟩|⟨b,clock,rfl,hb⟩
 ·cases q with
  |none=>simp [Instr.lookup,zK hu,hc,hq,hz]
  |some p=>simp [Instr.lookup,zK hu,hc,hq]
 cases q with
 |none=>simp [Instr.lookup,zK hu,hc,hq,hz,wS hb]
 |some p=>simp [Instr.lookup,zK hu,hc,hq,wS hb]
theorem G0 (hF:GG F V.ρ) (hW:zt B w0 V H w) {t:TypeId} {x k:OV} {ok:Bool} {r:zH} {u z:Value} (hx: ∀v,x=some v→zL V v u) (hk: ∀v,k=some v→zL V v z)
 (h:Zt P F t x k ok H=some r): ∃v v',r= .val v H∧zL V v v'∧(Instr.lookup t u z ok).run P w= .ok v' w:=by
 unfold Zt at h
 split at h
 ·rename_i x k
  replace hx:=hx _ rfl
  replace hk:=hk _ rfl
  obtain⟨v,hv,rfl⟩:=yq h
  clear h
  unfold kR at hv
  split at hv
  ·rename_i kt et hu
   cases hf:wM P kt k with
   |false=>rw [hf]at hv;cases hv
   |true=>
    rw [hf]at hv
    simp only [cond_true]at hv
    split at hv
    ·cases hv
    rename_i zv hz
    obtain⟨zv',rz,hzr⟩:=uQ (P:=P) hz
    split at hv
    ·cases hv
    rename_i es he
    have fin: ∀(ms:Array MapEntry),ph V es ms.toList→((u= .map none∧ms= #[])∨ ∃b clock,u= .map (some b)∧w.heap[b]? =some (.map ms clock))→ ∃v',zL V v v'∧(Instr.lookup t u z ok).run P w= .ok v' w:=by
     intro ms hm hsrc
     cases hfe:uO (Yb P F H 3 kt) k es 0 with
     |none=>rw [hfe]at hv;cases hv
     |some q=>
      obtain⟨q',h1,h2⟩:=wQ hF hW hk hf hm hfe
      rw [hfe]at hv
      have run:=pR hu hsrc (fun b=>qx hf hk b w) h1 (rz w) ok
      refine⟨_,?_,run⟩
      rcases h2 with⟨rfl,rfl⟩|⟨j,e,m,rfl,rfl,h3,h4⟩
      ·cases ok
       ·cases hv;exact hzr V
       cases hv
       exact zL.tupleA (.cons (hzr V) (.cons (.bool false) .nil))
      have hE:=hm.2 j e m h3 h4
      cases ok
      ·cases hv;exact hE.val
      cases hv
      exact zL.tupleA (.cons hE.val (.cons (.bool true) .nil))
    have res: ∃v',zL V v v'∧(Instr.lookup t u z ok).run P w= .ok v' w:=by
     split at he
     ·cases he
      cases hx
      exact fin #[] ⟨rfl,fun i e m h=>by simp at h⟩ (.inl ⟨rfl,rfl⟩)
     ·rename_i r
      split at he
      ·rename_i es' clock hma
       cases he
       obtain⟨b,base,S,hb,rfl⟩:=hx.inv_map
       obtain⟨_,ms,hms,hmr,_⟩:=gu hW hb hma
       exact fin ms hmr (.inr ⟨b,clock,rfl,hms⟩)
      cases he
     cases he
    obtain⟨v',h1,h2⟩:=res
    exact⟨v,v',rfl,h1,h2⟩
  cases hv
 cases h
end Go.Px
end
