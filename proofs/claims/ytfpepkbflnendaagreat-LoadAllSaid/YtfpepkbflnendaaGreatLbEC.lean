/- From what the evaluator finds to what a call of the program comes to: a function without parameters that answers a bool. -/
import Derived.Test.YtfpepkbflnendaaGreatLbEB
import Derived.CallsIn
import Derived.Scope
import Derived.RangeFuncLeaves
import Derived.RangeFuncNested
import Derived.Test.YtfpepkbflnendaaGreatLbEA
/- Regions that draw their order: every order comes to what the canonical one comes to. -/
namespace Go.Proofs.YtfpepkbflnendaaGreat
open Go Go.RowKit
namespace Ev
section
variable {P:Program} {E:Ent} {C:Cfg} {call:CallF} {ops:Array Oper} {l:List AOp} {S:Nat→St} {FL:Nat→List (Nat × List Nat)} {m:Nat}

structure Dw (P:Program) (E:Ent) (C:Cfg) (call:CallF) (ops:Array Oper) (l:List AOp) (S:Nat→St) (FL:Nat→List (Nat × List Nat)) (m:Nat):Prop where
 hcall:CallOk P C call
 tr:Tr C call E.pin l S FL m
 ok:okDraw 0 [] l=true
 all:∀ i,i<ops.size→∃ (p:Nat) (o:AOp),l[p]?=some o∧o.ix=i
 comp:∀ o:AOp,o∈l→compAt P ops (Region.before ops) o.ix=some o
 fin:m=l.length∨∃ o:AOp,l[m]?=some o∧spineK o.op=true
 pin:E.pin≤(S 0).hp.length

def undone (D:Array Bool)(o:AOp):Prop:=D.getD o.ix false=false
def isdone (D:Array Bool)(o:AOp):Prop:=D.getD o.ix false=true

structure Vals (P:Program) (E:Ent) (C:Cfg) (l:List AOp) (S:Nat→St) (m:Nat) (D:Array Bool) (a:Act) (W:World) (q:Nat) (L:Nat→Prop) (μ:Mu) (tm:List AV):Prop where
 hp:Hp P E (S q).tc W L μ (S q).hp
 env:Env C W L μ tm a
 df:DR W L μ (S 0).df a.defers
 len:tm.length=(S 0).tm.length
 wr:∀ (p:Nat) (o:AOp) (t:Nat),l[p]?=some o→isdone D o→o.dst=some t→tm.getD t .unk=(S m).tm.getD t .unk
 nw:∀ t,(∀ (p:Nat) (o:AOp),l[p]?=some o→isdone D o→o.dst≠some t)→tm.getD t .unk=(S 0).tm.getD t .unk
 no:∀ (p:Nat) (o:AOp),p<q→l[p]?=some o→undone D o→(S p).hp.length<(S (p+1)).hp.length→μ (S p).hp.length=.no

structure Pos (ops:Array Oper) (l:List AOp) (m:Nat) (D:Array Bool) (q:Nat):Prop where
 size:D.size=ops.size
 closed:Closed ops D
 le:q≤m
 at_:q=l.length∨∃ o:AOp,l[q]?=some o∧spineK o.op=true
 old:∀ (p:Nat) (o:AOp),p<q→l[p]?=some o→spineK o.op=true→isdone D o
 new:∀ (p:Nat) (o:AOp),q≤p→l[p]?=some o→undone D o

theorem Dw.ixne (h:Dw P E C call ops l S FL m){p q:Nat}{o o':AOp}(hp:l[p]?=some o)(hq:l[q]?=some o')(hne:p≠q):o.ix≠o'.ix:=by
 rcases Nat.lt_or_gt_of_ne hne with hl|hl
 ·have:=zby h.ok hp hq hl
  unfold okPair at this
  simp only[Bool.and_eq_true,bne_iff_ne] at this
  exact this.1.1.1.2
 ·have:=zby h.ok hq hp hl
  unfold okPair at this
  simp only[Bool.and_eq_true,bne_iff_ne] at this
  exact fun e=>this.1.1.1.2 e.symm
theorem Dw.dstne (h:Dw P E C call ops l S FL m){p q t:Nat}{o o':AOp}(hp:l[p]?=some o)(hq:l[q]?=some o')(hne:p≠q)(ht:o.dst=some t):o'.dst≠some t:=by
 rcases Nat.lt_or_gt_of_ne hne with hl|hl
 ·have:=zby h.ok hp hq hl
  unfold okPair at this
  simp only[Bool.and_eq_true] at this
  have:=this.1.2
  rw[ht] at this
  simpa using this
 ·intro ht'
  have:=zby h.ok hq hp hl
  unfold okPair at this
  simp only[Bool.and_eq_true] at this
  have:=this.1.2
  rw[ht,ht'] at this
  simp at this
theorem Dw.names1 (h:Dw P E C call ops l S FL m){p q t:Nat}{o o':AOp}(hp:l[p]?=some o)(hq:l[q]?=some o')(hl:p<q)(ht:o.dst=some t)(hn:t∈o'.names):o'.deps.testBit o.ix=true:=by
 have:=zby h.ok hp hq hl
 unfold okPair at this
 simp only[Bool.and_eq_true] at this
 have:=this.1.1.2
 rw[ht] at this
 simpa [hn] using this
theorem Dw.names2 (h:Dw P E C call ops l S FL m){p q t:Nat}{o o':AOp}(hp:l[p]?=some o)(hq:l[q]?=some o')(hl:p<q)(ht:o'.dst=some t)(hn:t∈o.names):o'.deps.testBit o.ix=true:=by
 have:=zby h.ok hp hq hl
 unfold okPair at this
 simp only[Bool.and_eq_true] at this
 have:=this.1.1.2
 rw[ht] at this
 simp only[Bool.or_eq_true,Bool.and_eq_true] at this
 rcases this with h'|⟨_,h'⟩
 ·exact h'
 ·simp[hn] at h'
theorem Dw.spdep (h:Dw P E C call ops l S FL m){p q:Nat}{o o':AOp}(hp:l[p]?=some o)(hq:l[q]?=some o')(hl:p<q)(hs:spineK o.op=true):o'.deps.testBit o.ix=true:=by
 have:=zby h.ok hp hq hl
 unfold okPair at this
 simp only[Bool.and_eq_true] at this
 simpa [hs] using this.2
theorem Dw.deps (h:Dw P E C call ops l S FL m){p:Nat}{o:AOp}(hp:l[p]?=some o):o.deps=(Region.before ops).getD o.ix 0:=by
 obtain ⟨_,_,_,_,_,_,h6⟩:=zdx (h.comp o (List.mem_of_getElem? hp))
 exact h6
theorem Dw.down (h:Dw P E C call ops l S FL m){D:Array Bool}(hc:Closed ops D){p:Nat}{o o':AOp}(hp:l[p]?=some o)(hd:isdone D o)(hb:o.deps.testBit o'.ix=true):isdone D o':=
 hc o.ix o'.ix hd (by rw[← h.deps hp];exact hb)

theorem zvq (D:Array Bool)(o:AOp):isdone D o∨undone D o:=by
 unfold isdone undone
 cases D.getD o.ix false<;>simp
theorem zcu {D:Array Bool}{o:AOp}(h:isdone D o)(h':undone D o):False:=by
 unfold isdone at h;unfold undone at h';rw[h] at h';cases h'

theorem Dw.agree (h:Dw P E C call ops l S FL m){D:Array Bool}{a:Act}{W:World}{q:Nat}{L:Nat→Prop}{μ:Mu}{tm:List AV}(hpos:Pos ops l m D q)(hv:Vals P E C l S m D a W q L μ tm)
  {p:Nat} {o:AOp} (hp:l[p]?=some o) (hu:undone D o) (hpq:p≤q) (hr:∀ k,o.deps.testBit k=true→D.getD k false=true) {t:Nat} (ht:t∈o.names):tm.getD t .unk=(S p).tm.getD t .unk:=by
 have hpm:p≤m:=Nat.le_trans hpq hpos.le
 obtain ⟨ta,tb⟩:=h.tr.tm_at h.ok (t:=t) hpm
 by_cases hex:∃ (p':Nat) (o':AOp),l[p']?=some o'∧isdone D o'∧o'.dst=some t
 ·obtain ⟨p',o',e1,e2,e3⟩:=hex
  have hne:p'≠p:=by
   rintro rfl
   rw[hp] at e1;cases e1
   exact zcu e2 hu
  rcases Nat.lt_or_gt_of_ne hne with hl|hl
  ·rw[hv.wr p' o' t e1 e2 e3,ta ⟨p',o',hl,e1,e3⟩]
  ·have:=h.names2 hp e1 hl e3 ht
   exact (zcu (h.down hpos.closed e1 e2 this) hu).elim
 ·rw[hv.nw t fun p' o' e1 e2 e3=>hex ⟨p',o',e1,e2,e3⟩]
  refine (tb fun p' o' hl e1 e3=>?_).symm
  have:=h.names1 e1 hp hl e3 ht
  exact hex ⟨p',o',e1,hr _ this,e3⟩

theorem zlh {tm tm':List AV}{g:Option (Nat × Bool)}(h:∀ t,t∈(match g with|some (t,_)=>[t]|none=>[])→tm.getD t .unk=tm'.getD t .unk):wantG (val C tm) g=wantG (val C tm') g:=by
 cases g with
 |none=>rfl
 |some g=>
  obtain ⟨t,w⟩:=g
  simp only[wantG]
  rw[valO (x:=.tmp t) (C:=C) (tm:=tm) (tm':=tm') (fun t' ht=>h t' (by simpa [tmpsO] using ht))]

theorem zeb {D:Array Bool}{o o':AOp}(hne:o.ix≠o'.ix):(D.setIfInBounds o.ix true).getD o'.ix false=D.getD o'.ix false:=by
 rw[Array.getD_eq_getD_getElem?,Array.getD_eq_getD_getElem?,Array.getElem?_setIfInBounds_ne hne]
theorem zcx {D:Array Bool}{o:AOp}(hlt:o.ix<D.size):isdone (D.setIfInBounds o.ix true) o:=by
 unfold isdone
 rw[Array.getD_eq_getD_getElem?,Array.getElem?_setIfInBounds_self,if_pos hlt];rfl

theorem Dw.tmstep (h:Dw P E C call ops l S FL m){D:Array Bool}{tm:List AV}{p:Nat}{o:AOp}(hlt:o.ix<D.size)(hp:l[p]?=some o)(hpm:p<m)
  (hlen:tm.length=(S 0).tm.length) {v:AV} (hS:(S (p+1)).tm=putT (S p).tm o.dst v)
  (wr:∀ (p:Nat) (o:AOp) (t:Nat),l[p]?=some o→isdone D o→o.dst=some t→tm.getD t .unk=(S m).tm.getD t .unk)
  (nw:∀ t,(∀ (p:Nat) (o:AOp),l[p]?=some o→isdone D o→o.dst≠some t)→tm.getD t .unk=(S 0).tm.getD t .unk):
  (putT tm o.dst v).length=(S 0).tm.length∧(∀ (p':Nat) (o':AOp) (t:Nat),l[p']?=some o'→isdone (D.setIfInBounds o.ix true) o'→o'.dst=some t→(putT tm o.dst v).getD t .unk=(S m).tm.getD t .unk) ∧
  (∀ t,(∀ (p':Nat) (o':AOp),l[p']?=some o'→isdone (D.setIfInBounds o.ix true) o'→o'.dst≠some t)→(putT tm o.dst v).getD t .unk=(S 0).tm.getD t .unk):=by
 refine ⟨len_putT.trans hlen,fun p' o' t e1 e2 e3=>?_,fun t ht=>?_⟩
 ·by_cases he:p'=p
  ·subst he
   rw[hp] at e1;cases e1
   rw[← ((h.tr.tm_at h.ok (t:=t) (q:=p'+1) hpm).1 ⟨p',o,by omega,hp,e3⟩),hS,e3]
   exact zpp (by rw[hlen,(h.tr.tmlen p' (by omega)).1])
  ·have hne:=h.dstne e1 hp he e3
   rw[zgw hne]
   refine wr p' o' t e1 ?_ e3
   unfold isdone at e2 ⊢
   rwa [zeb (h.ixne hp e1 (fun e=>he e.symm))] at e2
 ·have h1:o.dst≠some t:=ht p o hp (zcx hlt)
  rw[zgw h1]
  refine nw t fun p' o' e1 e2=>ht p' o' e1 ?_
  by_cases he:p'=p
  ·subst he;rw[hp] at e1;cases e1;exact zcx hlt
  ·unfold isdone at e2 ⊢
   rwa [zeb (h.ixne hp e1 (fun e=>he e.symm))]

theorem Dw.advance (h:Dw P E C call ops l S FL m){D:Array Bool}{q:Nat}{o:AOp}(hpos:Pos ops l m D q)(hq:l[q]?=some o)(hqm:q<m)(hlt:o.ix<D.size)(hr:∀ k,((Region.before ops).getD o.ix 0).testBit k=true→D.getD k false=true)
  {a:Act} {W:World} {L:Nat→Prop} {μ:Mu} {tm:List AV} (hp:Hp P E (S (q+1)).tc W L μ (S (q+1)).hp) (env:Env C W L μ tm a) (df:DR W L μ (S 0).df a.defers) (len:tm.length=(S 0).tm.length)
  (wr:∀ (p:Nat) (o':AOp) (t:Nat),l[p]?=some o'→isdone (D.setIfInBounds o.ix true) o'→o'.dst=some t→tm.getD t .unk=(S m).tm.getD t .unk)
  (nw:∀ t,(∀ (p:Nat) (o':AOp),l[p]?=some o'→isdone (D.setIfInBounds o.ix true) o'→o'.dst≠some t)→tm.getD t .unk=(S 0).tm.getD t .unk)
  (no:∀ (p:Nat) (o':AOp),p<q→l[p]?=some o'→undone D o'→(S p).hp.length<(S (p+1)).hp.length→μ (S p).hp.length=.no):
  ∃ q',Pos ops l m (D.setIfInBounds o.ix true) q'∧Vals P E C l S m (D.setIfInBounds o.ix true) a W q' L μ tm:=by
 obtain ⟨q',g1,g2,g3,g4⟩:=nextSpine h.tr.le h.fin (m - (q+1)) (q+1) (by omega)
 have hf:=h.hcall.fr
 have hother:∀ (p:Nat) (o':AOp),l[p]?=some o'→p≠q→(D.setIfInBounds o.ix true).getD o'.ix false=D.getD o'.ix false:=fun p o' e1 e2=>zeb (h.ixne hq e1 (fun e=>e2 e.symm))
 refine ⟨q',⟨by simp;exact hpos.size,hpos.closed.set hr,g2,g4,fun p o' e1 e2 e3=>?_,fun p o' e1 e2=>?_⟩,⟨?_,env,df,len,wr,nw,fun p o' e1 e2 e3 e4=>?_⟩⟩
 ·by_cases he:p=q
  ·subst he;rw[hq] at e2;cases e2;exact zcx hlt
  ·unfold isdone;rw[hother p o' e2 he]
   by_cases hlq:p<q
   ·exact hpos.old p o' hlq e2 e3
   ·have:=g3 p o' (by omega) e1 e2;rw[this] at e3;cases e3
 ·unfold undone;rw[hother p o' e2 (by omega)];exact hpos.new p o' (by omega) e2
 ·have:=h.tr.float_push (P:=P) (E:=E) (W:=W) (L:=L) (μ:=μ) (p:=q+1) (q' - (q+1)) (by omega) (fun i o' h1 h2 h3=>g3 i o' h1 (by omega) h3) hp
  rwa [show q+1+(q' - (q+1))=q' by omega] at this
 ·by_cases he:p=q
  ·subst he;rw[hq] at e2;cases e2;exact (zcu (zcx hlt) e3).elim
  ·by_cases hlq:p<q
   ·refine no p o' hlq e2 ?_ e4
    unfold undone at e3 ⊢;rwa [hother p o' e2 he] at e3
   ·exact hp.sim.out _ (h.tr.mono' hf (by omega) (by omega))

theorem VL.weaken {W:World}{L:Nat→Prop}{μ:Mu}{tm tm':List AV}{rs:List Value}(h:VL W L μ tm rs)(hl:tm'.length=tm.length)(ht:∀ t,tm'.getD t .unk=.unk∨tm'.getD t .unk=tm.getD t .unk):VL W L μ tm' rs:=by
 refine ⟨hl.trans h.1,fun i x r hx hr=>?_⟩
 have hi:i<tm.length:=by rw[h.1];exact (List.getElem?_eq_some_iff.1 hr).1
 have hxx:tm'.getD i .unk=x:=by rw[List.getD_eq_getElem?_getD,hx];rfl
 rcases ht i with e|e
 ·rw[hxx] at e;subst e;exact .unk
 ·rw[hxx] at e;subst e
  refine h.2 i _ r ?_ hr
  rw[List.getD_eq_getElem?_getD,List.getElem?_eq_getElem hi];rfl

theorem zid:∀ (dead:List Nat) (tm:List AV),(forget dead tm).length=tm.length
 |[],_=>rfl
 |d::l,tm=>by
  show (forget l (tm.set d .unk)).length=_
  rw[zid l];simp
theorem zie:∀ (dead:List Nat) (tm:List AV) (t:Nat),((forget dead tm).getD t .unk=.unk)∨(t∉dead∧(forget dead tm).getD t .unk=tm.getD t .unk)
 |[],_,_=>.inr ⟨by simp,rfl⟩
 |d::l,tm,t=>by
  rcases zie l (tm.set d .unk) t with h|⟨h,h'⟩
  ·exact .inl h
  ·by_cases hd:d=t
   ·subst hd
    left
    refine Eq.trans h' ?_
    rw[List.getD_eq_getElem?_getD,List.getElem?_set_self']
    cases tm[d]?<;>rfl
   ·right
    refine ⟨by simp[h];exact fun e=>hd e.symm,Eq.trans h' ?_⟩
    rw[List.getD_eq_getElem?_getD,List.getElem?_set_ne hd,List.getD_eq_getElem?_getD]

theorem Dw.alldone (h:Dw P E C call ops l S FL m){D:Array Bool}(hsz:D.size=ops.size)(hr:Region.ready .any ops D=[]):∀ (n p:Nat) (o:AOp),p<n→l[p]?=some o→isdone D o
 |0,p,o,hp,_=>by omega
 |n+1,p,o,hp,ho=>by
  rcases zvq D o with hd|hd
  ·exact hd
  ·exfalso
   obtain ⟨oo,h1,h2,h3,h4,h5,h6⟩:=zdx (h.comp o (List.mem_of_getElem? ho))
   have hlt:o.ix<D.size:=by rw[hsz];exact (Array.getElem?_eq_some_iff.1 h1).1
   have:o.ix∈Region.ready .any ops D:=by
    refine zxq h1 ?_ fun k hk=>?_
    ·unfold undone at hd
     rw[Array.getD_eq_getD_getElem?,Array.getElem?_eq_getElem hlt] at hd ⊢
     exact hd
    ·rcases zgr h.ok p o ho k (by rw[h6];exact hk) with h'|⟨i',o',a1,a2,a3⟩
     ·simp at h'
     ·have:=h.alldone hsz hr n i' o' (by omega) a2
      unfold isdone at this;rwa [a3] at this
   rw[hr] at this;cases this

def left (D:Array Bool):Nat:=D.count false
theorem zno {D:Array Bool}{i:Nat}(h:D.getD i true=false):left (D.setIfInBounds i true)+1=left D:=by
 have hi:i<D.size:=by
  by_cases hi:i<D.size
  ·exact hi
  ·rw[Array.getD_eq_getD_getElem?,Array.getElem?_eq_none (by omega)] at h;cases h
 rw[Array.getD_eq_getD_getElem?,Array.getElem?_eq_getElem hi] at h
 simp only[Option.getD_some] at h
 have hs:D.setIfInBounds i true=D.set i true:=by simp[Array.setIfInBounds,hi]
 rw[hs]
 unfold left
 rw[Array.count_set hi,h]
 have:0<D.count false:=Array.count_pos_iff.2 (by rw[← h];exact Array.getElem_mem hi)
 simp;omega
theorem zur {D:Array Bool}{i:Nat}(h:left D=0):D.getD i true=true:=by
 cases hb:D.getD i true with
 |true=>rfl
 |false=>have:=zno hb;omega
end
section
variable {P:Program} {E:Ent} {C:Cfg} {call:CallF} {ops:Array Oper} {l:List AOp} {S:Nat→St} {FL:Nat→List (Nat × List Nat)} {m:Nat}

theorem Dw.ends (h:Dw P E C call ops l S FL m){D:Array Bool}{a:Act}{W:World}{q:Nat}{L:Nat→Prop}{μ:Mu}{tm:List AV}(hpos:Pos ops l m D q)(hv:Vals P E C l S m D a W q L μ tm)
  (hr:Region.ready .any ops D=[]):m=l.length∧SR P C E (S m) a W:=by
 have hall:∀ (p:Nat) (o:AOp),l[p]?=some o→isdone D o:=fun p o ho=>h.alldone hpos.size hr (p+1) p o (by omega) ho
 have hq:q=l.length:=by
  rcases hpos.at_ with e|⟨o,e1,_⟩
  ·exact e
  ·exact (zcu (hall q o e1) (hpos.new q o (Nat.le_refl _) e1)).elim
 have hm:m=l.length:=by have:=h.tr.le;have:=hpos.le;omega
 have hqm:q=m:=by omega
 subst hqm
 refine ⟨hm,L,μ,hv.hp,⟨hv.env.tmps.weaken (by rw[hv.len];exact (h.tr.tmlen _ (Nat.le_refl _)).1) fun t=>.inr ?_,hv.env.glob⟩,?_⟩
 ·by_cases hex:∃ (p:Nat) (o:AOp),l[p]?=some o∧o.dst=some t
  ·obtain ⟨p,o,e1,e2⟩:=hex
   exact (hv.wr p o t e1 (hall p o e1) e2).symm
  ·rw[hv.nw t fun p o e1 _ e3=>hex ⟨p,o,e1,e3⟩]
   exact (h.tr.tm_at h.ok (t:=t) (Nat.le_refl q)).2 fun p o _ e1 e3=>hex ⟨p,o,e1,e3⟩
 ·rw[(h.tr.tmlen _ (Nat.le_refl _)).2];exact hv.df

theorem zyp (h:Dw P E C call ops l S FL m){F:Fence}(hF:Wide (P:=P) F){Q:Exit→Act→World→Prop}
  (hend:∀ a W,m=l.length→SR P C E (S m) a W→Q .normal a W)
  (hpan : ∀ (v : AV) (o : AOp) (hp : List AB) (tc : List Nat) (w : Value) (a : Act) (W : World), l[m]? = some o → wantG (val C (S m).tm) o.guard = some true → spineK o.op = true → spine call (val C (S m).tm) (S m).hp o.op = some (.pan v, hp, tc) →
   SRx P C E { S m with tm:=forget (l.filterMap (·.dst)) (S m).tm,hp:=hp,tc:=tc.filter (·<E.pin)++(S m).tc } v w a W→Q (.panic (one w)) a W)
  (hm:m=l.length∨∃ (v:AV) (o:AOp) (hp:List AB) (tc:List Nat),l[m]?=some o∧wantG (val C (S m).tm) o.guard=some true∧spineK o.op=true∧spine call (val C (S m).tm) (S m).hp o.op=some (.pan v,hp,tc)):
  ∀ (n:Nat) (D:Array Bool) (a:Act) (W:World) (q:Nat) (L:Nat→Prop) (μ:Mu) (tm:List AV),Pos ops l m D q→Vals P E C l S m D a W q L μ tm→left D≤n→wpAnyIn F 0 P .any ops Q n D a W:=by
 intro n
 induction n with
 |zero=>
  intro D a W q L μ tm hpos hv hn
  have hr:Region.ready .any ops D=[]:=by
   refine List.eq_nil_iff_forall_not_mem.2 fun i hi=>?_
   have:=(zhw hpos.closed hi).1
   rw[zur (by omega)] at this;cases this
  obtain ⟨e1,e2⟩:=h.ends hpos hv hr
  exact ⟨hr,hend _ _ e1 e2⟩
 |succ n ih=>
  intro D a W q L μ tm hpos hv hn
  refine ⟨fun hr=>?_,fun i hi=>?_⟩
  ·obtain ⟨e1,e2⟩:=h.ends hpos hv hr
   exact hend _ _ e1 e2
  ·obtain ⟨hu0,⟨oo,hoo⟩,hr⟩:=zhw hpos.closed hi
   have hlt:i<D.size:=by rw[hpos.size];exact (Array.getElem?_eq_some_iff.1 hoo).1
   obtain ⟨p,o,hp,rfl⟩:=h.all i (by rw[← hpos.size];exact hlt)
   obtain ⟨oo',e0,c1,c2,c3,_,c6⟩:=zdx (h.comp o (List.mem_of_getElem? hp))
   rw[hoo] at e0;cases e0
   have hleft:left (D.setIfInBounds o.ix true)≤n:=by have:=zno hu0;omega
   have hu:undone D o:=by
    unfold undone
    rw[Array.getD_eq_getD_getElem?,Array.getElem?_eq_getElem hlt] at hu0 ⊢
    exact hu0
   have hrd:∀ k,o.deps.testBit k=true→D.getD k false=true:=by rw[h.deps hp];exact hr
   have hpq:p≤q:=by
    rcases Nat.lt_or_ge q p with hl|hl
    ·exfalso
     rcases hpos.at_ with e|⟨oq,e1,e2⟩
     ·have:=(List.getElem?_eq_some_iff.1 hp).1;omega
     ·have hb:=h.spdep e1 hp hl e2
      exact zcu (hrd _ hb) (hpos.new q oq (Nat.le_refl _) e1)
    ·exact hl
   have hpm:p≤m:=Nat.le_trans hpq hpos.le
   have hag:∀ t,t∈o.names→tm.getD t .unk=(S p).tm.getD t .unk:=fun t ht=>h.agree hpos hv hp hu hpq hrd ht
   have hag1:∀ t,t∈o.op.tmps→tm.getD t .unk=(S p).tm.getD t .unk:=fun t ht=>hag t (by unfold AOp.names;simp[ht])
   have hwg:wantG (val C tm) o.guard=wantG (val C (S p).tm) o.guard:=zlh fun t ht=>hag t (by unfold AOp.names;exact List.mem_append_right _ ht)
   unfold wpOpIn
   rw[hoo]
   simp only
   -- the end by a panic
   by_cases hpan':p=m
   ·have hqm:q=m:=Nat.le_antisymm hpos.le (by omega)
    rcases hm with e|⟨v,o',hp',tc',e1,e2,e3,e4⟩
    ·have:=(List.getElem?_eq_some_iff.1 hp).1;omega
    ·subst hpan'
     rw[hp] at e1;cases e1
     subst hqm
     rw[zfh c2 hv.env (hwg.trans e2)]
     simp only[if_true]
     have hsp:spine call (val C tm) (S q).hp o.op=some (.pan v,hp',tc'):=by rw[zgm hag1];exact e4
     refine zeu h.hcall c1 hv.hp hv.env hsp hF (fun _ _ _ _ _ e=>by cases e) (fun v' w W' L' μ' e d1 d2 d3 d4 d5 d6=>?_)
     cases e
     refine hpan v o hp' tc' w a W' hp e2 e3 e4 ⟨L',μ',d2,⟨(hv.env.mono d3 d4).tmps.weaken ?_ fun t=>?_,(hv.env.mono d3 d4).glob⟩,?_,d1⟩
     ·simp only[zid];rw[hv.len];exact (h.tr.tmlen q (Nat.le_refl _)).1
     ·rcases zie (l.filterMap (·.dst)) (S q).tm t with h'|⟨h1,h2⟩
      ·exact .inl h'
      ·right
       have hnw:∀ (p:Nat) (o:AOp),l[p]?=some o→o.dst≠some t:=fun p o e1 e3=>h1 (List.mem_filterMap.2 ⟨o,List.mem_of_getElem? e1,e3⟩)
       rw[hv.nw t fun p o e1 _=>hnw p o e1]
       exact Eq.trans h2 ((h.tr.tm_at h.ok (t:=t) (Nat.le_refl q)).2 fun p o _ e1=>hnw p o e1)
     ·show DR W' L' μ' (S q).df _
      rw[(h.tr.tmlen q (Nat.le_refl _)).2];exact hv.df.mono d3 d4
   ·have hlm:p<m:=by omega
    obtain ⟨o',ft,s1,s2,s3⟩:=h.tr.step p hlm
    rw[hp] at s1;cases s1
    have hdone:∀ (p':Nat) (o':AOp),l[p']?=some o'→p'≠p→(D.setIfInBounds o.ix true).getD o'.ix false=D.getD o'.ix false:=fun p' o' e1 e2=>zeb (h.ixne hp e1 (fun e=>e2 e.symm))
    -- a step that is not of the spine, before the next one that is
    have hstay:p<q→∀ {a':Act} {W':World} {L':Nat→Prop} {μ':Mu} {v:AV},(S (p+1)).tm=putT (S p).tm o.dst v→Hp P E (S q).tc W' L' μ' (S q).hp→Env C W' L' μ' (putT tm o.dst v) a'→DR W' L' μ' (S 0).df a'.defers →
      (∀ (p':Nat) (o':AOp),p'<q→l[p']?=some o'→p'≠p→undone D o'→(S p').hp.length<(S (p'+1)).hp.length→μ' (S p').hp.length=.no)→wpAnyIn F 0 P .any ops Q n (D.setIfInBounds o.ix true) a' W':=by
     intro hlq a' W' L' μ' v t1 t2 t3 t4 t5
     obtain ⟨x1,x2,x3⟩:=h.tmstep hlt hp hlm hv.len t1 hv.wr hv.nw
     refine ih _ _ _ q L' μ' (putT tm o.dst v) ⟨by simp;exact hpos.size,hpos.closed.set hr,hpos.le,hpos.at_,fun p' o' e1 e2 e3=>?_,fun p' o' e1 e2=>?_⟩ ⟨t2,t3,t4,x1,x2,x3,fun p' o' e1 e2 e3 e4=>?_⟩ hleft
     ·by_cases he:p'=p
      ·subst he;rw[hp] at e2;cases e2;exact zcx hlt
      ·unfold isdone;rw[hdone p' o' e2 he];exact hpos.old p' o' e1 e2 e3
     ·unfold undone;rw[hdone p' o' e2 (by omega)];exact hpos.new p' o' e1 e2
     ·by_cases he:p'=p
      ·subst he;rw[hp] at e2;cases e2;exact (zcu (zcx hlt) e3).elim
      ·refine t5 p' o' e1 e2 he ?_ e4
       unfold undone at e3 ⊢;rwa [hdone p' o' e2 he] at e3
    -- a step of the spine
    have hgo:p=q→∀ {a':Act} {W':World} {L':Nat→Prop} {μ':Mu} {v:AV},(S (p+1)).tm=putT (S p).tm o.dst v→Hp P E (S (q+1)).tc W' L' μ' (S (q+1)).hp→Env C W' L' μ' (putT tm o.dst v) a'→DR W' L' μ' (S 0).df a'.defers →
      (∀ i,i<(S q).hp.length→μ i=.no→μ' i=.no)→wpAnyIn F 0 P .any ops Q n (D.setIfInBounds o.ix true) a' W':=by
     rintro rfl a' W' L' μ' v t1 t2 t3 t4 t5
     obtain ⟨x1,x2,x3⟩:=h.tmstep hlt hp hlm hv.len t1 hv.wr hv.nw
     obtain ⟨q',y1,y2⟩:=h.advance hpos hp hlm hlt hr t2 t3 t4 x1 x2 x3 fun p' o' e1 e2 e3 e4=>t5 _ (Nat.lt_of_lt_of_le e4 (h.tr.mono' h.hcall.fr (by omega) hpos.le)) (hv.no p' o' e1 e2 e3 e4)
     exact ih _ _ _ q' L' μ' (putT tm o.dst v) y1 y2 hleft
    generalize hS1:S (p+1)=st' at s2
    cases s2 with
    |skip hw=>
     rw[zfh c2 hv.env (hwg.trans hw)]
     simp only[Bool.false_eq_true,if_false]
     refine ⟨fun f _=>hF.fn f,?_⟩
     rw[← c3]
     have henv:Env C W L μ (putT tm o.dst (.tup [])) (a.put o.dst undef):=hv.env.put (tup_ok VL.nil) _
     have hdf:DR W L μ (S 0).df (a.put o.dst undef).defers:=by rw[zbq];exact hv.df
     rcases Nat.lt_or_ge p q with hl|hl
     ·exact hstay hl (by rw[hS1]) hv.hp henv hdf fun p' o' e1 e2 _ e3 e4=>hv.no p' o' e1 e2 e3 e4
     ·have he:p=q:=by omega
      refine hgo he (by rw[hS1]) ?_ henv hdf fun i _ hi=>hi
      subst he
      rw[hS1];exact hv.hp
    |@spine v hp' tc' hw hs hsp hap=>
     have he:p=q:=by
      rcases Nat.lt_or_ge p q with hl|hl
      ·exact (zcu (hpos.old p o hl hp hs) hu).elim
      ·omega
     rw[zfh c2 hv.env (hwg.trans hw)]
     simp only[if_true]
     have hsp':Ev.spine call (val C tm) (S q).hp o.op=some (.ret v,hp',tc'):=by rw[← he,zgm hag1];exact hsp
     refine zeu h.hcall c1 hv.hp hv.env hsp' hF (fun v' w W' L' μ' e d1 d2 d3 d4 d5 d6=>?_) (fun _ _ _ _ _ e=>by cases e)
     cases e
     rw[← c3]
     refine hgo he (by rw[hS1]) ?_ ((hv.env.mono d3 d4).put d1 _) (by rw[zbq];exact hv.df.mono d3 d4) d6
     subst he
     rw[hS1];exact d2
    |@float v hp' ft' hw hs hfl=>
     have hl:p<q:=by
      rcases Nat.lt_or_ge p q with hl|hl
      ·exact hl
      ·have he:p=q:=by omega
       subst he
       rcases hpos.at_ with e|⟨oq,e1,e2⟩
       ·have:=(List.getElem?_eq_some_iff.1 hp).1;omega
       ·rw[hp] at e1;cases e1;rw[hs] at e2;cases e2
     rw[zfh c2 hv.env (hwg.trans hw)]
     simp only[if_true]
     have hnd:∀ c,oo.op≠.defer c:=zdw c1 (by intro f args e;rw[e] at hs;cases hs)
     have hfl':Ev.float (val C tm) (S p).hp o.op=some (v,hp',ft'):=by rw[zmd hag1];exact hfl
     have hkept:∀ b,b∈ft'→(S q).hp[b]?=hp'[b]?:=fun b hb=>by
      have hlt':∀ b,b∈ft'→b<(S (p+1)).hp.length:=fun b hb=>by
       rw[hS1]
       rcases zed hfl' with ⟨blk,mk,_,_,rfl,rfl⟩|⟨_,rfl,_,g⟩
       ·simp at hb ⊢;omega
       ·exact g b hb
      have := h.tr.kept h.hcall.fr hp s3 hlt' (q - (p + 1)) (by have := hpos.le; omega) (fun i o' h1 h2 h3 h4 => by
       cases hb:o'.deps.testBit o.ix with
       |false=>rfl
       |true=>exact (zcu (h.down hpos.closed h3 (hpos.old i o' (by omega) h3 h4) hb) hu).elim) b hb
      rw[show p+1+(q - (p+1))=q by omega,hS1] at this
      exact this
     have hSt:(S (p+1)).tm=putT (S p).tm o.dst v:=by rw[hS1]
     rcases zed hfl' with ⟨blk,mk,n1,rfl,rfl,rfl⟩|⟨n1,rfl,n3,_⟩
     ·have hlen1:(S p).hp.length<(S (p+1)).hp.length:=by rw[hS1];simp
      refine new_wp c1 hv.hp hv.env n1 (j:=(S p).hp.length) ?_ (hv.no p o hl hp hu hlen1) (Nat.le_trans h.pin (h.tr.mono' h.hcall.fr (Nat.zero_le _) hpm)) hF hnd (fun w W' d1 d2 d3 d4=>?_)
      ·rw[hkept _ (List.mem_cons_self ..)];simp
      ·rw[← c3]
       refine hstay hl hSt d2 ((hv.env.mono d3 d4).put d1 _) (by rw[zbq];exact hv.df.mono d3 d4) fun p' o' e1 e2 e3 e4 e5=>?_
       rw[zbd]
       ·exact hv.no p' o' e1 e2 e4 e5
       ·rcases Nat.lt_or_gt_of_ne e3 with hl'|hl'
        ·have:=h.tr.mono' h.hcall.fr (p:=p'+1) (q:=p) (by omega) hpm;omega
        ·have:=h.tr.mono' h.hcall.fr (p:=p+1) (q:=p') (by omega) (by have:=hpos.le;omega);omega
     ·refine znt c1 hv.hp hv.env (zol n3 hkept) hF hnd (fun w d1=>?_)
      rw[← c3]
      exact hstay hl hSt hv.hp (hv.env.put d1 _) (by rw[zbq];exact hv.df) fun p' o' e1 e2 _ e4 e5=>hv.no p' o' e1 e2 e4 e5
end

theorem zcp (H:List AB):∀ (n:Nat) (todo acc:List Nat),acc.Nodup→(∃ more,reach H n todo acc=acc++more)∧(reach H n todo acc).Nodup
 |0,_,acc,h=>⟨⟨[],by simp[reach]⟩,by simpa [reach] using h⟩
 |n+1,[],acc,h=>⟨⟨[],by simp[reach]⟩,by simpa [reach] using h⟩
 |n+1,b::todo,acc,h=>by
  simp only[reach]
  split
  ·exact zcp H n todo acc h
  ·rename_i hb
   have hnb:b∉acc:=fun hm=>hb (by simpa using hm)
   obtain ⟨⟨more, h1⟩, h2⟩ := zcp H n (refsB (H.getD b .dead) ++ todo) (acc ++ [b]) (by
    rw[List.nodup_append]
    exact ⟨h,by simp,fun x hx y hy=>by simp at hy;subst hy;rintro rfl;exact hnb hx⟩)
   exact ⟨⟨b::more,by rw[h1];simp⟩,h2⟩

theorem zjy {r:List Nat}:∀ {i j:Nat},place r i=some j→r[j]?=some i:=by
 induction r with
 |nil=>intro i j h;simp[place] at h
 |cons x l ih=>
  intro i j h
  simp only[place] at h
  split at h
  ·rename_i e;cases h;subst e;rfl
  ·cases hp:place l i with
   |none=>rw[hp] at h;cases h
   |some k=>
    rw[hp] at h;cases h
    simpa using ih hp

theorem zix {r:List Nat}(hn:r.Nodup):∀ {i j:Nat},r[j]?=some i→place r i=some j:=by
 induction r with
 |nil=>intro i j h;simp at h
 |cons x l ih=>
  intro i j h
  rw[List.nodup_cons] at hn
  simp only[place]
  cases j with
  |zero=>simp at h;subst h;simp
  |succ j=>
   simp at h
   rw[if_neg (by rintro rfl;exact hn.1 (List.mem_of_getElem? h)),ih hn.2 h];rfl

theorem zgv {r:List Nat}(hn:r.Nodup){i j k:Nat}(h1:r[j]?=some i)(h2:r[k]?=some i):j=k:=by
 have a:=zix hn h1
 have b:=zix hn h2
 rw[a] at b;exact Option.some.inj b

def muR (r:List Nat)(μ:Mu):Mu:=fun j=>match r[j]? with|some i=>μ i|none=>.no
theorem zlu {r:List Nat}{μ:Mu}{i j:Nat}(h:r[j]?=some i):muR r μ j=μ i:=by simp[muR,h]
theorem zdv {r:List Nat}{μ:Mu}(i j:Nat)(h:place r i=some j):muR r μ j=μ i:=zlu (zjy h)
theorem zdi {r:List Nat}{μ:Mu}{j:Nat}(h:muR r μ j≠.no):∃ i,r[j]?=some i∧muR r μ j=μ i:=by
 unfold muR at h ⊢
 cases hr:r[j]? with
 |none=>rw[hr] at h;exact absurd rfl h
 |some i=>exact ⟨i,rfl,rfl⟩

theorem zfu {H:List AB}{r:List Nat}{j:Nat}:(restrict H r)[j]?=(r[j]?).map fun i=>renB (place r) (H.getD i .dead):=by
 unfold restrict;rw[List.getElem?_map]
theorem zcj {H:List AB}{r:List Nat}:(restrict H r).length=r.length:=by simp[restrict]

section
variable {P:Program} {E:Ent} {W:World} {L:Nat→Prop} {μ μ':Mu} {C:Cfg} {tc:List Nat} {H:List AB} {tm:List AV} {a:Act}

theorem BR.ren {b:AB}{o:Obj}(h:BR P W L μ b o)(σ:Nat→Option Nat)(hs:∀ i j,σ i=some j→μ' j=μ i):BR P W L μ' (renB σ b) o:=by
 cases h with
 |cells h1 h2=>
  refine .cells (by rw[zdt,List.length_map];exact h1) fun i x r hx hr=>?_
  obtain ⟨y,hy,rfl⟩:=zec hx
  exact (h2 i y r hy hr).ren σ hs
 |map h0 h1 h2=>
  refine .map h0 (by rw[zto,List.length_map];exact h1) fun i k v e hx hr=>?_
  rw[zto,List.getElem?_map] at hx
  cases hy:(_:List (AV × AV))[i]? with
  |none=>rw[hy] at hx;cases hx
  |some y=>
   rw[hy] at hx;cases hx
   obtain ⟨g1,g2⟩:=h2 i y.1 y.2 e hy hr
   exact ⟨g1.ren σ hs,g2.ren σ hs⟩
 |loop h1 h2 h3 h4 h5 h6 h7=>
  simp only[renB]
  split
  ·rename_i d hd
   exact .loop h1 h2 (h3.ren σ hs) h4 h5 h6 (by rw[hs _ _ hd];exact h7)
  ·exact .dead
 |dfr=>exact .dfr
 |dead=>exact .dead

theorem Sim.part (h:Sim P W L μ H){r:List Nat}(hn:r.Nodup):Sim P W L (muR r μ) (restrict H r) where
 live j B hm:=by
  obtain ⟨i,h1,h2⟩:=zdi (by rw[hm];simp)
  rw[h2] at hm
  obtain ⟨a,b,blk,o,e1,e2,e3⟩:=h.live i B hm
  refine ⟨a,b,renB (place r) blk,o,?_,e2,e3.ren _ zdv⟩
  rw[zfu,h1]
  simp only[Option.map_some,List.getD_eq_getElem?_getD,e1,Option.getD_some]
 dead j b hd hb:=by
  obtain ⟨i,h1,h2⟩:=zdi (by rw[hd];simp)
  rw[h2] at hd
  rw[zfu,h1] at hb
  simp only[Option.map_some,List.getD_eq_getElem?_getD] at hb
  cases hH:H[i]? with
  |none=>rw[hH] at hb;cases hb;rfl
  |some b0=>rw[hH,h.dead i b0 hd hH] at hb;cases hb;rfl
 out j hj:=by
  rw[zcj] at hj
  unfold muR
  rw[List.getElem?_eq_none hj]
 inj j k B hj hk:=by
  obtain ⟨i,h1,h2⟩:=zdi (by rw[hj];simp)
  obtain ⟨i',h1',h2'⟩:=zdi (by rw[hk];simp)
  rw[h2] at hj;rw[h2'] at hk
  have:=h.inj i i' B hj hk
  subst this
  exact zgv hn h1 h1'
 lt:=h.lt

theorem Hp.part (h:Hp P E tc W L μ H){r:List Nat}(hn:r.Nodup)(hp:∀ i,i<E.pin→r[i]?=some i):Hp P E tc W L (muR r μ) (restrict H r):=
 { h with
  sim:=h.sim.part hn
  pins:=fun i hi=>by rw[zlu (hp i hi)];exact h.pins i hi
  own:=fun j B hj hm=>by
   obtain ⟨i,h1,h2⟩:=zdi (by rw[hm];simp)
   rw[h2] at hm
   refine h.own i B ?_ hm
   rcases Nat.lt_or_ge i E.pin with hl|hl
   ·have:=zgv hn (hp i hl) h1;omega
   ·exact hl
  len:=by
   rw[zcj]
   rcases Nat.lt_or_ge r.length E.pin with hl|hl
   ·have:=hp r.length hl
    rw[List.getElem?_eq_none (Nat.le_refl _)] at this;cases this
   ·exact hl }

theorem DR.ren {σ:Nat→Option Nat}(hs:∀ i j,σ i=some j→μ' j=μ i):∀ {ds ds':List ADef} {rs:List Deferred},DR W L μ ds rs→renDs σ ds=some ds'→DR W L μ' ds' rs
 |_,_,_,.nil,h=>by simp[renDs] at h;subst h;exact .nil
 |_,_,_,.cons (d:=d) h1 h2,h=>by
  simp only[renDs] at h
  split at h<;>cases h
  rename_i d' l' e1 e2
  refine .cons ?_ (h2.ren hs e2)
  cases h1 with
  |call h1=>simp[renD] at e1;subst e1;exact .call (h1.ren σ hs)
  |mark h1=>
   simp only[renD] at e1
   obtain ⟨j,hj,rfl⟩:=Option.map_eq_some_iff.1 e1
   exact .mark (by rw[hs _ _ hj];exact h1)

theorem nodup_range (n:Nat):(List.range n).Nodup:=List.nodup_range

theorem gc_sr {st:St}{W:World}(h:SR P C E st a W):SR P C E (gc E.pin st) a W:=by
 obtain ⟨L,μ,h1,h2,h3⟩:=h
 unfold gc
 simp only
 generalize hr1:reach st.hp fuelR ((List.range E.pin).flatMap fun i=>refsB (st.hp.getD i .dead)) (List.range E.pin)=r1
 obtain ⟨⟨m1,e1⟩,n1⟩:=zcp st.hp fuelR ((List.range E.pin).flatMap fun i=>refsB (st.hp.getD i .dead)) (List.range E.pin) (nodup_range _)
 rw[hr1] at e1 n1
 generalize hr:reach st.hp fuelR (refsL st.tm++st.df.flatMap fun|.mark d=>[d]|.call _ args=>refsL args) r1=r
 obtain ⟨⟨m2,e2⟩,n2⟩:=zcp st.hp fuelR (refsL st.tm++st.df.flatMap fun|.mark d=>[d]|.call _ args=>refsL args) r1 n1
 rw[hr] at e2 n2
 have hpin:∀ i,i<E.pin→r[i]?=some i:=fun i hi=>by
  rw[e2,e1,List.append_assoc,List.getElem?_append_left (by simpa using hi)]
  simp[hi]
 split
 ·rename_i df hdf
  exact ⟨L,muR r μ,h1.part n2 hpin,⟨h2.tmps.ren _ zdv,h2.glob⟩,h3.ren zdv hdf⟩
 ·exact ⟨L,μ,h1,h2,h3⟩

theorem gcC_sr {st:St}{W:World}(h:SR P C E st a W):SR P C E (gcC C E.pin st) a W:=by
 unfold gcC
 cases (C.calm || Nat.ble st.hp.length (E.pin+C.gcAt))
 ·exact gc_sr h
 ·exact h

theorem znp:∀ (live:List Nat) (tm acc:List AV),acc.length=tm.length→(∀ t,acc.getD t .unk=.unk∨acc.getD t .unk=tm.getD t .unk) →
  (live.foldl (fun acc t=>acc.set t (tm.getD t .unk)) acc).length=tm.length∧∀ t,(live.foldl (fun acc t=>acc.set t (tm.getD t .unk)) acc).getD t .unk=.unk∨(live.foldl (fun acc t=>acc.set t (tm.getD t .unk)) acc).getD t .unk=tm.getD t .unk
 |[],tm,acc,h1,h2=>⟨h1,h2⟩
 |x::l,tm,acc,h1,h2=>znp l tm (acc.set x (tm.getD x .unk)) (by simpa using h1) fun t=>by
  by_cases hx:x=t
  ·subst hx
   right
   rw[List.getD_eq_getElem?_getD,List.getElem?_set_self']
   cases hax:acc[x]? with
   |some y=>simp
   |none=>
    have:acc.length≤x:=List.getElem?_eq_none_iff.1 hax
    simp[List.getElem?_eq_none (by omega:tm.length≤x)]
  ·rw[List.getD_eq_getElem?_getD,List.getElem?_set_ne hx,← List.getD_eq_getElem?_getD];exact h2 t
theorem zye {st:St}{W:World}(live:List Nat)(h:SR P C E st a W):SR P C E { st with tm:=keepT live st.tm } a W:=by
 obtain ⟨L,μ,h1,h2,h3⟩:=h
 obtain ⟨k1, k2⟩ := znp live st.tm (List.replicate st.tm.length .unk) (by simp) fun t => .inl (by
  rw[List.getD_eq_getElem?_getD,List.getElem?_replicate];split<;>rfl)
 exact ⟨L,μ,h1,⟨h2.tmps.weaken k1 k2,h2.glob⟩,h3⟩
end
end Ev
end Go.Proofs.YtfpepkbflnendaaGreat
namespace Go.Proofs.YtfpepkbflnendaaGreat.Ev
open Go
section
variable {P:Program} {F:Fence} {n:Nat} {b:Frame} {a:Act} {k:List Item} {cs:List Frame} {w:World} {Q:Exit→Act→World→Prop}
theorem zcd {c:Code}:step P (lone (b.atR a (.code (.scope c)::k)) cs w)=.next (lone (b.atR a (.code c::.inScope c::k)) cs w):=
 step_lone_go (by simp[stepG,stepG.exec,Frame.atR])
theorem zir {c:Code}:step P (lone (b.atR a (.inScope c::k)) cs w)=.next (lone (b.atR a k) cs w):=
 step_lone_go (by simp[stepG,stepG.exec,Frame.atR])
theorem zej {c:Code}(h:c.wpIn F n P (Exit.noGoto Q) a w):(Code.scope c).wpIn F n P Q a w:=by
 intro b k cs hro hb hr
 have h0:(lone (b.atR a (.code (.scope c)::k)) cs w).fenced P F:=fenced_calm hb hr rfl
 obtain ⟨e,a₁,w₁,hq,harr⟩:=h b (.inScope c::k) cs hro hb hr
 cases e with
 |normal=>exact ⟨.normal,a₁,w₁,hq,.head h0 zcd (StepsIn.trans harr (.one (fenced_calm (fr:=b.atR a₁ (.inScope c::k)) hb hr rfl) zir))⟩
 |exit id=>
  refine ⟨.exit id,a₁,w₁,hq,fun k' hk=>.head h0 zcd (harr.1 k' (by simp[exitTo,hk])),fun hr' hk=>?_⟩
  obtain ⟨k1,h1,h2⟩:=harr.2 hr' (by simp[exitTo,hk])
  exact ⟨k1,h1,.head h0 zcd h2⟩
 |goto l=>exact hq.elim
 |ret=>exact ⟨_,a₁,w₁,hq,.of_steps (.one h0 zcd) harr⟩
 |panic ch=>exact ⟨_,a₁,w₁,hq,.of_steps (.one h0 zcd) harr⟩
 |outgrown=>exact ⟨_,a₁,w₁,hq,.of_steps (.one h0 zcd) harr⟩
end
end Go.Proofs.YtfpepkbflnendaaGreat.Ev
namespace Go.Proofs.YtfpepkbflnendaaGreat
open Go Go.RowKit
namespace Ev
section
variable {P:Program} {E:Ent} {C:Cfg} {call:CallF}

def Sees (P:Program)(C:Cfg)(E:Ent)(e:AExit)(st:St):Exit→Act→World→Prop
 |.normal,a,W=>e=.normal∧SR P C E st a W
 |.exit j,a,W=>e=.exit j∧SR P C E st a W
 |.ret,a,W=>e=.ret∧SR P C E st a W
 |.panic ch,a,W=>∃ v w,e=.panic v∧ch=one w∧SRx P C E st v w a W
 |.goto _,_,_=>False
 |.outgrown,_,_=>False

theorem zom {F:Fence}{n:Nat}{Q:Exit→Act→World→Prop}{a:Act}{w:World}{c:Code}(I:Nat→Act→World→Prop){k0:Nat}(h0:I k0 a w)
  (hround:∀ k a w,I k a w→c.wpIn F n P (Exit.then (fun a' w'=>∃ k',k'<k∧I k' a' w') Q) a w):(Code.loop c).wpIn F n P Q a w:=by
 classical
 have hmin:∀ a w,(∃ k,I k a w)→∃ k,I k a w∧∀ j,I j a w→k≤j:=by
  rintro a w ⟨k,hk⟩
  induction k using Nat.strongRecOn with
  |_ k ih=>
   by_cases hj:∃ j,j<k∧I j a w
   ·obtain ⟨j,hj,hi⟩:=hj;exact ih j hj hi
   ·exact ⟨k,hk,fun j hi=>Nat.le_of_not_lt fun hl=>hj ⟨j,hl,hi⟩⟩
 let m:Act→World→Nat:=fun a w=>if h:∃ k,I k a w then Classical.choose (hmin a w h) else 0
 have hm:∀ a w,(∃ k,I k a w)→I (m a w) a w∧∀ j,I j a w→m a w≤j:=fun a w h=>by
  have:m a w=Classical.choose (hmin a w h):=dif_pos h
  rw[this];exact Classical.choose_spec (hmin a w h)
 refine wpIn_loop (fun a w=>∃ k,I k a w) m ⟨k0,h0⟩ fun a w hI=>?_
 refine wpIn_mono (hround _ a w (hm a w hI).1) ?_
 intro e a' w' hq
 cases e<;>try exact hq
 obtain ⟨k',hk',hi⟩:=hq
 exact ⟨⟨k',hi⟩,Nat.lt_of_le_of_lt ((hm a' w' ⟨k',hi⟩).2 k' hi) hk'⟩

def RangeOk (P:Program)(E:Ent)(C:Cfg)(call:CallF)(F:Fence)(rd:Option Nat):Prop:=
 ∀ (g:Opnd) (ps:List Nat) (as bd:AC) (g0:Operand) (ps0:Array Tmp) (as0 bd0:Code) (st st':St) (e:AExit) (a:Act) (W:World),
  ev C call E.pin rd (.rangeF g ps as bd) st=some (e,st')→compCode P (.rangeFunc g0 ps0 as0 bd0)=some (strip (.rangeF g ps as bd))→SR P C E st a W→(Code.rangeFunc g0 ps0 as0 bd0).wpIn F 0 P (Sees P C E e st') a W

theorem Sees.ofPanic {v:AV}{st:St}{w:Value}{a:Act}{W:World}(h:SRx P C E st v w a W):Sees P C E (.panic v) st (.panic (one w)) a W:=⟨v,w,rfl,rfl,h⟩

theorem zvp (hcall:CallOk P C call){F:Fence}(hF:Wide (P:=P) F){rd:Option Nat}{id:Nat}{ops:Array Oper}{l0 l:List AOp}(h0:compOps P ops (Region.before ops) (List.range ops.size)=some l0)
  (h1:greedy l0 ops.size l0 [] 0=some l) (h2:okDraw 0 [] l=true) (h3:((List.range ops.size).all fun i=>l.any (·.ix==i))=true) (h4:P.follows .mixedOrders=true)
  {st st':St} {e:AExit} {a:Act} {W:World} (hx:ev C call E.pin rd (.draw l) st=some (e,st')) (hs:SR P C E st a W):(Code.region id ops true).wpIn F 0 P (Sees P C E e st') a W:=by
 simp only[ev] at hx
 obtain ⟨⟨r,st1⟩,hr,hx⟩:=Option.map_eq_some_iff.1 hx
 obtain ⟨S,FL,m,s0,f0,ht,hend⟩:=zoa hr
 refine wpIn_region_any h4 ?_
 obtain ⟨L,μ,g1,g2,g3⟩:=hs
 obtain ⟨g1',hl⟩:=g1.env' (W':={ W with drawn:=W.drawn+1 }) rfl ⟨rfl,rfl,rfl⟩
 have hdw:Dw P E C call ops l S FL m:=by
  refine ⟨hcall,ht,h2,fun i hi=>?_,fun o ho=>?_,?_,by rw[s0];exact g1.len⟩
  ·rw[List.all_eq_true] at h3
   have:=h3 i (List.mem_range.2 hi)
   rw[List.any_eq_true] at this
   obtain ⟨o,ho,he⟩:=this
   obtain ⟨p,hp⟩:=List.getElem?_of_mem ho
   exact ⟨p,o,hp,by simpa using he⟩
  ·rcases zfo h1 o ho with hm|hm
   ·obtain ⟨i,_,hc⟩:=zhg h0 o hm
    obtain ⟨_,_,_,_,_,h5,_⟩:=zdx hc
    rw[h5];exact hc
   ·cases hm
  ·rcases hend with ⟨_,h,_⟩|⟨v,o,hp,tc,_,h,_,h',_⟩
   ·exact .inl h
   ·exact .inr ⟨o,h,h'⟩
 have hpos:∃ q,Pos ops l m (Array.replicate ops.size false) q∧Vals P E C l S m (Array.replicate ops.size false) a { W with drawn:=W.drawn+1 } q L μ st.tm:=by
  have hnd:∀ o:AOp,¬ isdone (Array.replicate ops.size false) o:=fun o h=>by
   unfold isdone at h
   rw[Array.getD_eq_getD_getElem?,Array.getElem?_replicate] at h
   split at h<;>cases h
  have hun:∀ o:AOp,undone (Array.replicate ops.size false) o:=fun o=>(zvq _ o).resolve_left (hnd o)
  obtain ⟨q,q1,q2,q3,q4⟩:=nextSpine ht.le hdw.fin m 0 (by omega)
  refine ⟨q,⟨by simp,fun i k hi=>?_,q2,q4,fun p o hp ho hsp=>?_,fun p o _ _=>hun o⟩,⟨?_,⟨(g2.mono hl (Ext.refl _)).tmps,(g2.mono hl (Ext.refl _)).glob⟩,by rw[s0];exact g3.mono hl (Ext.refl _),by rw[s0],fun p o t _ hd=>absurd hd (hnd o),fun t _=>by rw[s0],fun p o hp ho _ hlt=>?_⟩⟩
  ·rw[Array.getD_eq_getD_getElem?,Array.getElem?_replicate] at hi
   split at hi<;>cases hi
  ·rw[q3 p o (Nat.zero_le _) hp ho] at hsp;cases hsp
  ·have:=ht.float_push (P:=P) (E:=E) (W:={ W with drawn:=W.drawn+1 }) (L:=L) (μ:=μ) (p:=0) q (by omega) (fun i o h1 h2 h3=>q3 i o h1 (by omega) h3) (by rw[s0];exact g1')
   rwa [Nat.zero_add] at this
  ·have h0:=ht.mono' hcall.fr (p:=0) (q:=p) (Nat.zero_le _) (by omega)
   rw[s0] at h0
   exact g1'.sim.out _ h0
 obtain ⟨q,hp,hv⟩:=hpos
 refine zyp hdw hF (fun a W hm hs=>?_) (fun v o hp tc w a W e1 e2 e3 e4 hs=>?_) ?_ ops.size _ a _ q L μ st.tm hp hv (by unfold left;simp)
 ·rcases hend with ⟨h,_,h'⟩|⟨v,o,hp,tc,_,h,_⟩
  ·subst h h';cases hx;exact ⟨rfl,hs⟩
  ·rw[hm] at h;simp at h
 ·rcases hend with ⟨_,h,_⟩|⟨v',o',hp',tc',k1,k2,k3,k4,k5,k6⟩
  ·rw[h] at e1;simp at e1
  ·rw[e1] at k2;cases k2
   rw[e4] at k5;cases k5
   subst k1 k6
   cases hx
   exact .ofPanic hs
 ·rcases hend with ⟨_,h,_⟩|⟨v',o',hp',tc',k1,k2,k3,k4,k5,k6⟩
  ·exact .inl h
  ·exact .inr ⟨v',o',hp',tc',k2,k3,k4,k5⟩

theorem zun {F:Fence}{rd:Option Nat}{c:Code}{ac:AC}{live:List Nat}(hbody:∀ (st st':St) (e:AExit) (a:Act) (W:World),ev C call E.pin rd ac st=some (e,st')→SR P C E st a W→c.wpIn F 0 P (Sees P C E e st') a W)
  {st st':St} {e:AExit} {a:Act} {W:World} (hx:ev C call E.pin rd (.loop live ac) st=some (e,st')) (hs:SR P C E st a W):(Code.loop c).wpIn F 0 P (Sees P C E e st') a W:=by
 simp only[ev] at hx
 refine zom (fun k a W=>∃ st,loopN (ev C call E.pin rd ac) (fun st=>gcC C E.pin { st with tm:=keepT live st.tm }) k st=some (e,st')∧SR P C E st a W) (k0:=fuelL) ⟨st,hx,hs⟩ ?_
 rintro k a W ⟨st,hx,hs⟩
 cases k with
 |zero=>simp[loopN] at hx
 |succ k=>
  simp only[loopN] at hx
  have hs':=gcC_sr (zye live hs)
  split at hx
  ·rename_i st1 h1
   refine wpIn_mono (hbody _ _ _ _ _ h1 hs') ?_
   intro e' a' w' hq
   cases e'<;>simp[Sees] at hq
   exact ⟨k,Nat.lt_succ_self k,st1,hx,hq⟩
  ·rename_i r h1
   refine wpIn_mono (hbody _ _ _ _ _ hx hs') ?_
   intro e' a' w' hq
   cases e'<;>try exact hq
   obtain ⟨rfl,_⟩:=hq
   exact absurd hx (h1 st')

theorem zmi {pin:Nat}{rd:Option Nat}{ac:AC}{st:St}{r:AExit × St}(hx:ev C call pin rd ac st=some r)(h:dead=strip ac):False:=by
 unfold dead at h
 cases ac<;>simp[strip] at h
 obtain ⟨rfl,_⟩:=h
 simp[ev,val] at hx

theorem ev_ok (hcall:CallOk P C call){F:Fence}(hF:Wide (P:=P) F){rd:Option Nat}(hrd:rd.isSome=false→F.round=none)(hrange:RangeOk P E C call F rd):
  ∀ (code:Code) (ac:AC) (st st':St) (e:AExit) (a:Act) (W:World),ev C call E.pin rd ac st=some (e,st')→compCode P code=some (strip ac)→SR P C E st a W→code.wpIn F 0 P (Sees P C E e st') a W:=by
 intro code
 induction code with
 |skip=>
  intro ac st st' e a W hx hc hs
  simp only[compCode] at hc
  cases ac<;>simp[strip] at hc
  cases hx
  exact wpIn_skip ⟨rfl,hs⟩
 |region id ops drawn=>
  intro ac st st' e a W hx hc hs
  cases drawn with
  |false=>
   simp only[compCode] at hc
   split at hc
   case h_2=>exact (zmi hx (Option.some.inj hc)).elim
   rename_i l hl
   cases ac<;>simp[strip] at hc
   subst hc
   simp only[ev] at hx
   obtain ⟨⟨r,st1⟩,hr,hx⟩:=Option.map_eq_some_iff.1 hx
   refine wpIn_region (znz hcall hF hrd hl hr hs (fun a' W' e1 hs'=>?_) (fun v w a' W' e1 hs'=>?_))
   ·subst e1;cases hx;exact ⟨rfl,hs'⟩
   ·subst e1;cases hx;exact .ofPanic hs'
  |true=>
   simp only[compCode] at hc
   split at hc
   ·rename_i l0 h0
    split at hc
    ·rename_i l h1
     split at hc
     ·rename_i hcond
      cases ac<;>simp[strip] at hc
      subst hc
      exact zvp hcall hF h0 h1 hcond.1 hcond.2.1 hcond.2.2 hx hs
     ·cases hc
    ·exact (zmi hx (Option.some.inj hc)).elim
   ·exact (zmi hx (Option.some.inj hc)).elim
 |seq x y ihx ihy=>
  intro ac st st' e a W hx hc hs
  simp only[compCode] at hc
  split at hc<;>cases hc':ac<;>rw[hc'] at hc<;>simp[strip] at hc
  rename_i x' y' h1 h2 ax ay
  subst hc'
  obtain ⟨rfl,rfl⟩:=hc
  simp only[ev] at hx
  refine wpIn_seq ?_
  split at hx
  ·rename_i st1 hx1
   refine wpIn_mono (ihx ax st st1 .normal a W hx1 h1 hs) ?_
   intro e' a' w' hq
   cases e'<;>simp[Sees] at hq
   exact ihy ay st1 st' e a' w' hx h2 hq
  ·rename_i r hn
   refine wpIn_mono (ihx ax st st' e a W hx h1 hs) ?_
   intro e' a' w' hq
   cases e'<;>try exact hq
   obtain ⟨rfl,_⟩:=hq
   exact absurd hx (hn st')
 |cond c x y ihx ihy=>
  intro ac st st' e a W hx hc hs
  simp only[compCode] at hc
  split at hc<;>cases hc':ac<;>rw[hc'] at hc<;>simp[strip] at hc
  rename_i c' x' y' h0 h1 h2 cc ax ay
  subst hc'
  obtain ⟨rfl,rfl,rfl⟩:=hc
  simp only[ev] at hx
  split at hx
  ·rename_i t hv
   obtain ⟨L,μ,g1,g2,g3⟩:=hs
   have hb:=zat g2 h0
   rw[hv] at hb
   refine wpIn_cond (zbf hb) ?_
   cases t
   ·exact ihy ay st st' e a W hx h2 ⟨L,μ,g1,g2,g3⟩
   ·exact ihx ax st st' e a W hx h1 ⟨L,μ,g1,g2,g3⟩
  ·cases hx
 |block id c ih=>
  intro ac st st' e a W hx hc hs
  simp only[compCode] at hc
  obtain ⟨c',h1,hk⟩:=Option.map_eq_some_iff.1 hc
  clear hc
  cases hc':ac<;>rw[hc'] at hk<;>simp[strip] at hk
  rename_i id' ac'
  subst hc'
  obtain ⟨rfl,rfl⟩:=hk
  simp only[ev] at hx
  refine wpIn_block ?_
  split at hx
  ·rename_i i st1 hx1
   refine wpIn_mono (ih ac' st st1 (.exit i) a W hx1 h1 hs) ?_
   intro e' a' w' hq
   cases e'<;>simp[Sees] at hq
   obtain ⟨rfl,hq⟩:=hq
   simp only[Exit.inBlock]
   split at hx<;>cases hx
   ·rename_i hid;rw[if_pos hid];exact ⟨rfl,hq⟩
   ·rename_i hid;rw[if_neg hid];exact ⟨rfl,hq⟩
  ·rename_i r hn
   refine wpIn_mono (ih ac' st st' e a W hx h1 hs) ?_
   intro e' a' w' hq
   cases e'<;>try exact hq
   obtain ⟨rfl,_⟩:=hq
   exact absurd hx (hn _ st')
 |loop c ih=>
  intro ac st st' e a W hx hc hs
  simp only[compCode] at hc
  obtain ⟨c',h1,hk⟩:=Option.map_eq_some_iff.1 hc
  clear hc
  cases hc':ac<;>rw[hc'] at hk<;>simp[strip] at hk
  rename_i live ac'
  subst hc' hk
  exact zun (fun st st' e a W hx hs=>ih ac' st st' e a W hx h1 hs) hx hs
 |rangeFunc g ps x y _ _=>
  intro ac st st' e a W hx hc hs
  have hc':=hc
  simp only[compCode] at hc
  split at hc<;>cases hc':ac<;>rw[hc'] at hc<;>simp[strip] at hc
  subst hc'
  exact hrange _ _ _ _ _ _ _ _ _ _ _ _ _ hx (by assumption) hs
 |exit id=>
  intro ac st st' e a W hx hc hs
  simp only[compCode] at hc
  cases ac<;>simp[strip] at hc
  subst hc
  cases hx
  exact wpIn_exit ⟨rfl,hs⟩
 |label l=>
  intro ac st st' e a W hx hc hs
  simp only[compCode] at hc
  cases ac<;>simp[strip] at hc
  cases hx
  exact wpIn_label ⟨rfl,hs⟩
 |scope c ih=>
  intro ac st st' e a W hx hc hs
  simp only[compCode] at hc
  refine zej (wpIn_mono (ih ac st st' e a W hx hc hs) ?_)
  intro e' a' w' hq
  cases e'<;>first|exact hq|exact hq.elim
 |ret=>
  intro ac st st' e a W hx hc hs
  simp only[compCode] at hc
  cases ac<;>simp[strip] at hc
  cases hx
  exact wpIn_ret ⟨rfl,hs⟩
 |_=>intro ac st st' e a W hx hc hs;simp[compCode] at hc
end

structure DfOk (P:Program) (f t:Nat) (ag:Bool):Prop where
 go : ∃ F, P.funcs[f]? = some F ∧ (F.name == "runtime.NumGoroutine")=false∧F.body.isNone=false
 idle:∀ (x:Value) (W:World),CallsDIn Fence.wide 0 P f #[x] .returning W fun e u' W'=>(∃ v,e=.returned v)∧u'=.returning∧Below W.heap.size W W'
 pan:∀ (B off:Nat) (y x:Value) (k:IntKind) (n:Int) (W:World),W.cell? ⟨B,off,none⟩=some y→W.frozen? ⟨B,off,none⟩=false→x=(if ag then .agg #[.int k n] else .int k n) →
  CallsDIn Fence.wide 0 P f #[.pointer (some ⟨B,off,none⟩)] (.panicking [{ v:=.iface t x,recovered:=false }]) W fun e u' W'=>
   (∃ v,e=.returned v)∧u'=.panicking [{ v:=.iface t x,recovered:=true }]∧Below W.heap.size (W.setCell ⟨B,off,none⟩ (.int k n)) W'

theorem zch {P : Program} {f : Nat} {F : Func} (h : P.funcs[f]? = some F) (hn : (F.name == "runtime.NumGoroutine")=false) (hb:F.body.isNone=false) (args:Array Value) (W:World):
  (callFunc f args).run P W=.ok (.enter f args) W:=by
 unfold callFunc
 have hp:(program:Sem Program).run P W=.ok P W:=rfl
 simp only[Sem.run_bind,hp,Result.andThen,h]
 rw[if_neg (by rw[hn];simp),if_neg (by rw[hb];simp)]
 rfl

section
variable {P:Program} {E:Ent} {W W':World} {L:Nat→Prop} {μ:Mu} {C:Cfg} {tc:List Nat} {H:List AB} {tm:List AV}

theorem zlp {B off:Nat}{rs:Array Value}{t:TypeId}{fz:Nat × Nat}(c:Value)(h:W.heap[B]?=some (.cells rs t fz)):Upd B (.cells (rs.setIfInBounds off c) t fz) W (W.setCell ⟨B,off,none⟩ c):=by
 have hlt:B<W.heap.size:=(Array.getElem?_eq_some_iff.1 h).1
 refine ⟨by simp[World.setCell],?_,fun b hb=>?_,rfl,rfl,rfl⟩
 ·simp only[World.setCell,Array.getElem?_modify,if_true]
  rw[h];rfl
 ·simp only[World.setCell,Array.getElem?_modify]
  rw[if_neg (fun h=>hb h.symm)]

theorem zsv (cs:List AV)(off:Nat)(v:AV)(h:off<cs.length):setAt cs off [v]=cs.set off v:=by
 unfold setAt
 rw[List.set_eq_take_append_cons_drop,if_pos h];simp

theorem Hp.setCell (h:Hp P E tc W L μ H){b B off:Nat}{cs:List AV}(hb:H[b]?=some (.cells cs))(hm:μ b=.at B)(ho:off<cs.length){v:AV}{c:Value}(hv:VR W L μ v c):
  (∃ y,W.cell? ⟨B,off,none⟩=some y)∧W.frozen? ⟨B,off,none⟩=false∧Hp P E ([b].filter (·<E.pin)++tc) (W.setCell ⟨B,off,none⟩ c) L μ (H.set b (.cells (setAt cs off [v])))∧Later L L W (W.setCell ⟨B,off,none⟩ c):=by
 obtain ⟨hB,hlt,blk,o,e1,e2,e3⟩:=h.sim.live b B hm
 rw[hb] at e1;cases e1
 obtain ⟨rs,t,rfl⟩:∃ rs t,o=.cells rs t (0,0):=by cases e3 with|@cells _ rs t _ _=>exact ⟨rs,t,rfl⟩
 have hsz:cs.length≤rs.size:=by cases e3 with|cells h1 _=>exact h1
 have hel:∀ (i:Nat) (x:AV) (r:Value),cs[i]?=some x→rs[i]?=some r→VR W L μ x r:=by cases e3 with|cells _ h2=>exact h2
 refine ⟨⟨rs[off],by simp[World.cell?,e2]⟩,by simp[World.frozen?,e2],?_⟩
 refine h.put hm e2 (zlp c e2) (.ofCells (fun rs' t' f hc=>by cases hc;exact ⟨_,rfl,by simp⟩) fun _ _=>by simp) ?_
 rw[zsv _ _ _ ho]
 refine .cells (by simpa using hsz) fun i x r hx hr=>?_
 by_cases hi:off=i
 ·subst hi
  rw[List.getElem?_set_self (by omega)] at hx
  rw[Array.getElem?_setIfInBounds_self_of_lt (by omega)] at hr
  cases hx;cases hr;exact hv
 ·rw[List.getElem?_set_ne hi] at hx
  rw[Array.getElem?_setIfInBounds_ne hi] at hr
  exact hel i x r hx hr

def PM (W:World)(L:Nat→Prop)(μ:Mu):Option AV→FrameMode→Prop
 |none,u=>u=.returning
 |some v,u=>∃ w,u=.panicking (one w)∧VR W L μ v w

def Out (P:Program)(C:Cfg)(E:Ent)(tmps:Array Value)(st:St)(p:Option AV)(u:FrameMode)(W:World):Prop:=
 ∃ L μ,Hp P E st.tc W L μ st.hp∧VL W L μ st.tm tmps.toList∧Globs C W L∧PM W L μ p u

theorem PM.mono {L':Nat→Prop}{μ':Mu}{p:Option AV}{u:FrameMode}(h:PM W L μ p u)(hl:Later L L' W W')(he:Ext μ μ'):PM W' L' μ' p u:=by
 cases p with
 |none=>exact h
 |some v=>obtain ⟨w,h1,h2⟩:=h;exact ⟨w,h1,h2.mono hl he⟩
theorem PM.norun {p:Option AV}{u:FrameMode}(h:PM W L μ p u):u≠.run:=by
 cases p with
 |none=>cases h;simp
 |some v=>obtain ⟨w,rfl,_⟩:=h;simp

theorem zvs {ag:Bool}{v c:AV}{x:Value}(h:codeOf ag v=some c)(hv:VR W L μ v x):∃ k n,c=.int k n∧x=(if ag then .agg #[.int k n] else .int k n):=by
 unfold codeOf at h
 split at h<;>cases h
 ·exact ⟨_,_,rfl,vr_int hv⟩
 ·obtain ⟨rs,rfl,h2⟩:=vr_agg hv
  have hl:=h2.1
  match rs,hl with
  |[r],_=>exact ⟨_,_,rfl,by have:=vr_int h2.head;subst this;rfl⟩


theorem Hp.below (h:Hp P E tc W L μ H)(hb:Below W.heap.size W W'):Hp P E tc W' L μ H∧Later L L W W':=by
 have hl:Later L L W W':=⟨hb.size,fun b hlt _=>hb.block b hlt,fun b o e=>⟨o,(hb.block b (Array.getElem?_eq_some_iff.1 e).1).trans e,.refl o⟩,fun _ h=>.inl h⟩
 refine ⟨{ h with
  sim := { h.sim with
   live:=fun i B hm=>by
    obtain ⟨g1,g2,blk,o,g3,g4,g5⟩:=h.sim.live i B hm
    exact ⟨g1,Nat.lt_of_lt_of_le g2 hb.size,blk,o,g3,(hb.block B g2).trans g4,g5.mono hl (Ext.refl _)⟩
   lt:=fun b hL=>Nat.lt_of_lt_of_le (h.sim.lt b hL) hb.size }
  same:=fun b hlt hn=>(hb.block b (Nat.lt_of_lt_of_le hlt h.size)).trans (h.same b hlt hn)
  size:=Nat.le_trans h.size hb.size
  shape:=fun b o0 e=>by
   obtain ⟨rs',e1,e2⟩:=h.shape b o0 e
   exact ⟨rs',(hb.block b (Array.getElem?_eq_some_iff.1 e1).1).trans e1,e2⟩
  env:=⟨hb.os.trans h.env.1,hb.tape.trans h.env.2.1,hb.output.trans h.env.2.2⟩ },hl⟩

theorem zfk (ht:∀ f t ag,C.dfk f=some (t,ag)→DfOk P f t ag){F:Func}{tmps:Array Value}{R:Ending→World→Prop}:∀ (ds:List ADef) (rs:List Deferred) (p:Option AV) (st st':St) (r:Option AV) (u:FrameMode) (W:World) (L:Nat→Prop) (μ:Mu),
  runDefs C E.pin ds p st=some (r,st')→Hp P E st.tc W L μ st.hp→VL W L μ st.tm tmps.toList→Globs C W L→DR W L μ ds rs→PM W L μ p u →
  (∀ u' W',Out P C E tmps st' r u' W'→LeavesInM Fence.wide 0 P F tmps R [] u' W')→LeavesInM Fence.wide 0 P F tmps R rs u W:=by
 intro ds
 induction ds with
 |nil=>
  intro rs p st st' r u W L μ hx hp hv hg hd hm hk
  cases hd
  simp only[runDefs] at hx
  cases hx
  exact hk u W ⟨L,μ,hp,hv,hg,hm⟩
 |cons d ds ih=>
  intro rs p st st' r u W L μ hx hp hv hg hd hm hk
  cases hd with
  |@cons _ rd _ rs h1 h2=>
  refine ⟨hm.norun,?_⟩
  cases h1 with
  |@mark d D args h1=>
   left
   simp only[runDefs] at hx
   split at hx
   ·rename_i hdf
    have hat:μ d=.at D:=by
     rcases h1 with h1|h1
     ·exact h1
     ·cases hp.sim.dead _ _ h1 hdf
    obtain ⟨hB,hlt,blk,o,e1,e2,e3⟩:=hp.sim.live d D hat
    rw[hdf] at e1;cases e1
    cases e3
    have htd:=run_takeDeferred (P:=P) e2
    obtain ⟨hs1,hs2⟩:=zcf (P:=P) (o':=.deferred none) e2 (by intro c t f;simp)
    obtain ⟨q1,q2⟩:=hp.put (blk:=.dead) hat e2 hs2 (.ofCells (fun rs t f hc=>by cases hc) fun _ _=>by simp) .dead
    obtain ⟨q3,q4⟩:=q1.kill d (by rw[List.length_set];exact (List.getElem?_eq_some_iff.1 hdf).1) (by rw[hat];simp)
    refine ⟨D,_,rfl,htd,?_⟩
    refine ih _ _ _ _ _ _ _ L (updM μ d .dead) hx ?_ (hv.mono q2 q4) (Globs.mono hg q2) (h2.mono q2 q4) (hm.mono q2 q4) hk
    have:(st.hp.set d .dead).set d .dead=st.hp.set d .dead:=by simp
    rw[this] at q3
    exact q3.more (by simp only[List.mem_append];rintro i (h|h|h)<;>simp[h])
   ·cases hx
  |@call f args rargs cap h1=>
   right
   refine ⟨fun h=>by simp[Fence.wide] at h,?_⟩
   simp only[runDefs] at hx
   split at hx
   ·rename_i t ag b off hdf
    have hdok:=ht _ _ _ hdf
    obtain ⟨G,g1,g2,g3⟩:=hdok.go
    have hone:∃ x,rargs++cap=#[x]∧VR W L μ (.ptr b off) x:=by
     have hl:=h1.1
     have:(rargs++cap).toList=rargs.toList++cap.toList:=by simp
     rw[← this] at hl h1
     match hc:(rargs++cap).toList,hl with
     |[x],_=>
       refine ⟨x,Array.ext' (by rw[hc]),?_⟩
       rw[hc] at h1
       exact h1.head
    obtain ⟨x,hx1,hx2⟩:=hone
    refine ⟨.func f,cap,f,#[x],rfl,?_,fun _ _=>trivial,?_⟩
    ·simp only[invoke]
     rw[hx1];exact zch g1 g2 g3 _ _
    ·split at hx
     ·cases hm
      refine (hdok.idle x W).mono ?_
      rintro e u' W' ⟨⟨v,rfl⟩,rfl,hs⟩
      obtain ⟨q1,q2⟩:=hp.below hs
      simp only[settle]
      exact ih _ _ _ _ _ _ _ _ _ hx q1 (hv.mono q2 (Ext.refl _)) (Globs.mono hg q2) (h2.mono q2 (Ext.refl _)) rfl hk
     ·rename_i t' v
      obtain ⟨w,rfl,hw⟩:=hm
      obtain ⟨z,rfl,hz⟩:=zbu hw
      split at hx
      ·rename_i c cs hc hcs
       split at hx
       ·rename_i hcond
        obtain ⟨rfl,hoff⟩:=hcond
        obtain ⟨k,n,rfl,rfl⟩:=zvs hc hz
        obtain ⟨B,hB,rfl,_⟩:=rd_ptr hp.sim hx2 hcs
        obtain ⟨⟨y,hy⟩,hfz,q1,q2⟩:=hp.setCell hcs hB hoff (v:=.int k n) (c:=.int k n) .int
        refine (hdok.pan B off y _ k n W hy hfz rfl).mono ?_
        rintro e u' W' ⟨⟨v,rfl⟩,rfl,hs⟩
        obtain ⟨q3,q4⟩:=q1.below (by rw[World.size_setCell];exact hs)
        have q5:=q2.trans (fun _ h=>h) q4
        have hst:settle (.panicking [{ v:=.iface t' (if ag then .agg #[.int k n] else .int k n),recovered:=true }])=.returning:=rfl
        simp only[hst]
        exact ih _ _ _ _ _ _ _ _ _ hx q3 (hv.mono q5 (Ext.refl _)) (Globs.mono hg q5) (h2.mono q5 (Ext.refl _)) rfl hk
       ·cases hx
      ·cases hx
     ·cases hx
   ·cases hx

def resF (tmps:Array Value):ResultVar→Sem Value
 |.tmp t=>pure (tmps.getD t undef)
 |.cell a t=>do loadVar t (← asAddr (tmps.getD a undef))
theorem zph (fn:Func)(tmps:Array Value):results fn tmps=(do let vs ← fn.results.mapM (resF tmps);pure (if h:vs.size=1 then vs[0] else .tuple vs)):=by
 unfold results
 rfl

theorem zzq {st:St}{tmps:Array Value}(hp:Hp P E st.tc W L μ st.hp)(hv:VL W L μ st.tm tmps.toList):∀ {l:List ResultVar} {rl:List ARes} {vs:List AV},compRes P l=some rl→resL st rl=some vs →
  ∃ ws,(l.mapM (resF tmps)).run P W=.ok ws W∧VL W L μ vs ws:=by
 have hget:∀ t,VR W L μ (st.tm.getD t .unk) (tmps.getD t undef):=fun t=>by
  cases ht:st.tm[t]? with
  |none=>rw[List.getD_eq_getElem?_getD,ht];exact .unk
  |some x=>
   obtain ⟨r,h1,h2⟩:=hv.get ht
   rw[List.getD_eq_getElem?_getD,ht,Array.getD_eq_getD_getElem?,← Array.getElem?_toList,h1]
   exact h2
 intro l
 induction l with
 |nil=>
  intro rl vs hc hr
  simp only[compRes] at hc;cases hc
  simp only[resL] at hr;cases hr
  exact ⟨[],by simp,VL.nil⟩
 |cons x l ih=>
  intro rl vs hc hr
  cases x with
  |tmp t=>
   simp only[compRes] at hc
   obtain ⟨rl',h1,rfl⟩:=Option.map_eq_some_iff.1 hc
   simp only[resL,resOf] at hr
   split at hr<;>cases hr
   rename_i v vs' e1 e2
   cases e1
   obtain ⟨ws,q1,q2⟩:=ih h1 e2
   refine ⟨tmps.getD t undef::ws,?_,VL.cons (hget t) q2⟩
   rw[List.mapM_cons]
   simp only[resF,Sem.run_bind,Sem.run_pure,Result.andThen,q1]
  |cell b t=>
   simp only[compRes] at hc
   split at hc<;>cases hc
   rename_i k rl' hk h1
   simp only[resL] at hr
   split at hr<;>cases hr
   rename_i v vs' e1 e2
   obtain ⟨ws,q1,q2⟩:=ih h1 e2
   simp only[resOf] at e1
   split at e1
   ·rename_i pb off hpt
    split at e1
    ·rename_i cs hcs
     have hg:=hget b
     rw[hpt] at hg
     obtain ⟨B,_,hB,hrd⟩:=rd_ptr hp.sim hg hcs
     obtain ⟨z,z1,z2⟩:=hrd.load hk (zhz e1)
     refine ⟨z::ws,?_,VL.cons z2 q2⟩
     have ha:(asAddr (tmps.getD b undef)).run P W=.ok ⟨B,off,none⟩ W:=by rw[hB];rfl
     have hr:(resF tmps (.cell b t)).run P W=.ok z W:=by
      simp only[resF,Sem.run_bind,ha,Result.andThen,z1]
     rw[List.mapM_cons]
     simp only[Sem.run_bind,Sem.run_pure,Result.andThen,q1,hr]
    ·cases e1
   ·cases e1

theorem zzp {vs:List AV}{ws:List Value}(h:VL W L μ vs ws):VR W L μ (resV vs) (if h:ws.toArray.size=1 then ws.toArray[0] else .tuple ws.toArray):=by
 have hl:=h.1
 match vs,ws,hl with
 |[],[],_=>exact tup_ok h
 |[v],[w],_=>exact h.head
 |a::b::vs,c::d::ws,_=>exact tup_ok h

def FPost (P:Program)(C:Cfg)(E:Ent)(x:CRes)(st:St)(e:Ending)(W:World):Prop:=
 ∃ L μ,Hp P E st.tc W L μ st.hp∧CRel W L μ x e∧Globs C W L

theorem zvf (ht:∀ f t ag,C.dfk f=some (t,ag)→DfOk P f t ag){F:Func}{fn:AFunc}(hres:compRes P F.results.toList=some fn.res){e:AExit}{st st':St}{x:CRes}(hx:finish C E.pin fn e st=some (x,st'))
  {ex:Exit} {a:Act} {W:World} (hs:Sees P C E e st ex a W):bodyPostM Fence.wide 0 P F (FPost P C E x st') ex a W:=by
 have hret:∀ {st1:St} {u:FrameMode} {W1:World},Out P C E a.tmps st1 none u W1→∀ vs,resL st1 fn.res=some vs→LeavesInM Fence.wide 0 P F a.tmps (FPost P C E (.ret (resV vs)) st1) [] u W1:=by
  rintro st1 u W1 ⟨L,μ,h1,h2,h3,rfl⟩ vs hvs
  obtain ⟨ws,q1,q2⟩:=zzq h1 h2 hres hvs
  simp only[LeavesInM,LeavesIn]
  refine ⟨_,?_,L,μ,h1,zzp q2,h3⟩
  rw[zph,Array.mapM_eq_mapM_toList]
  simp only[Sem.run_bind,Sem.run_map,q1,Result.andThen]
  rfl
 have hnorm:∀ {r:Option (Option AV × St)},r=runDefs C E.pin st.df none st→(match r with|some (none,st)=>(resL st fn.res).map fun vs=>(CRes.ret (resV vs),st)|_=>none)=some (x,st')→SR P C E st a W→LeavesInM Fence.wide 0 P F a.tmps (FPost P C E x st') a.defers .returning W:=by
  rintro r hr hx ⟨L,μ,h1,h2,h3⟩
  split at hx
  ·rename_i st1
   obtain ⟨vs,hvs,he⟩:=Option.map_eq_some_iff.1 hx
   cases he
   exact zfk ht _ _ _ _ _ _ _ _ _ _ hr.symm h1 h2.tmps h2.glob h3 rfl fun u' W' ho=>hret ho vs hvs
  ·cases hx
 cases ex with
 |normal=>
  obtain ⟨rfl,hs⟩:=hs
  simp only[finish] at hx
  exact hnorm rfl hx hs
 |ret=>
  obtain ⟨rfl,hs⟩:=hs
  simp only[finish] at hx
  exact hnorm rfl hx hs
 |exit j=>
  obtain ⟨rfl,hs⟩:=hs
  simp[finish] at hx
 |goto l=>exact hs.elim
 |outgrown=>exact hs.elim
 |panic ch=>
  obtain ⟨v,w,rfl,rfl,L,μ,h1,h2,h3,h4⟩:=hs
  simp only[finish] at hx
  split at hx
  ·rename_i st1 hr
   obtain ⟨vs,hvs,he⟩:=Option.map_eq_some_iff.1 hx
   cases he
   exact zfk ht _ _ _ _ _ _ _ _ _ _ hr h1 h2.tmps h2.glob h3 ⟨w,rfl,h4⟩ fun u' W' ho=>hret ho vs hvs
  ·rename_i v' st1 hr
   cases hx
   refine zfk ht _ _ _ _ _ _ _ _ _ _ hr h1 h2.tmps h2.glob h3 ⟨w,rfl,h4⟩ ?_
   rintro u' W' ⟨L',μ',g1,g2,g3,w',rfl,g4⟩
   exact ⟨L',μ',g1,⟨w',rfl,g4⟩,g3⟩
  ·cases hx
end

def backM (N:Nat)(r:List Nat)(μ μ':Mu):Mu:=fun i=>if i<N then (match place r i with|some j=>μ' j|none=>μ i) else μ' (r.length+(i - N))

theorem zpr {r:List Nat}{i:Nat}(h:i∉r):place r i=none:=by
 cases hp:place r i with
 |none=>rfl
 |some j=>exact absurd (List.mem_of_getElem? (zjy hp)) h

section
variable {N:Nat} {r:List Nat} {μ μ':Mu}
theorem zof (hn:r.Nodup){i j:Nat}(h:r[j]?=some i)(hi:i<N):backM N r μ μ' i=μ' j:=by
 unfold backM;rw[if_pos hi,zix hn h]
theorem zwf {i:Nat}(h:i∉r)(hi:i<N):backM N r μ μ' i=μ i:=by
 unfold backM;rw[if_pos hi,zpr h]
theorem zdc {i:Nat}(hi:N≤i):backM N r μ μ' i=μ' (r.length+(i - N)):=by
 unfold backM;rw[if_neg (by omega)]
theorem zft (hn:r.Nodup)(hr:∀ i,i∈r→i<N):∀ j j',backN N r j=some j'→backM N r μ μ' j'=μ' j:=by
 intro j j' h
 unfold backN at h
 cases hj:r[j]? with
 |some i=>
  rw[hj] at h;cases h
  exact zof hn hj (hr _ (List.mem_of_getElem? hj))
 |none=>
  rw[hj] at h;cases h
  have:r.length≤j:=List.getElem?_eq_none_iff.1 hj
  rw[zdc (by omega)]
  congr 1;omega
end

theorem zbo (H:List AB)(r:List Nat)(hp:List AB):∀ tc,(backH H r hp tc).length=H.length
 |[]=>rfl
 |j::tc=>by simp[backH,zbo H r hp tc]

theorem zdd {H:List AB}{r:List Nat}{hp:List AB}{i:Nat}(hi:i<H.length):∀ {tc:List Nat},(∀ j,j∈tc→r[j]?≠some i)→(backH H r hp tc)[i]?=H[i]?
 |[],_=>rfl
 |j::tc,h=>by
  simp only[backH]
  have:r.getD j H.length≠i:=by
   rw[List.getD_eq_getElem?_getD]
   have:=h j (List.mem_cons_self ..)
   cases hj:r[j]? with
   |none=>simp;omega
   |some k=>rw[hj] at this;simpa using this
  rw[List.getElem?_set_ne this]
  exact zdd hi fun k hk=>h k (List.mem_cons_of_mem _ hk)

theorem zjh {H:List AB}{r:List Nat}{hp:List AB}{i j:Nat}(hn:r.Nodup)(hi:i<H.length)(hj:r[j]?=some i):∀ {tc:List Nat},j∈tc→(backH H r hp tc)[i]?=some (renB (backN H.length r) (hp.getD j .dead))
 |k::tc,h=>by
  simp only[backH]
  by_cases hk:k=j
  ·subst hk
   rw[List.getD_eq_getElem?_getD,hj,Option.getD_some,List.getElem?_set_self (by rw[zbo];exact hi)]
  ·have hm:j∈tc:=by
    rcases List.mem_cons.1 h with h|h
    ·exact absurd h.symm hk
    ·exact h
   have:r.getD k H.length≠i:=by
    rw[List.getD_eq_getElem?_getD]
    cases hj':r[k]? with
    |none=>simp;omega
    |some m=>
     simp only[Option.getD_some]
     rintro rfl
     exact hk (zgv hn hj' hj)
   rw[List.getElem?_set_ne this]
   exact zjh hn hi hj hm

section
variable {P:Program} {E:Ent} {W W':World} {L L':Nat→Prop} {μ μ':Mu} {tc tc0:List Nat} {H hp:List AB} {r:List Nat}

theorem Hp.start (h:Sim P W L μ H):Hp P ⟨W,L,μ,H.length⟩ [] W L μ H where
 sim:=h
 pins i _:=.inl rfl
 own j B hj hm:=by rw[h.out j hj] at hm;cases hm
 same _ _ _:=rfl
 size:=Nat.le_refl _
 shape b o e:=⟨o,e,.refl o⟩
 keep _ h:=h
 new _ h:=.inl h
 env:=⟨rfl,rfl,rfl⟩
 len:=Nat.le_refl _

theorem zuc (h:Sim P W L μ H):muR (List.range H.length) μ=μ:=by
 funext i
 unfold muR
 by_cases hi:i<H.length
 ·simp[hi]
 ·rw[List.getElem?_eq_none (by simp;omega)]
  exact (h.out i (by omega)).symm

mutual
theorem ziv:∀ v:AV,ren some v=v
 |.ptr b off=>rfl
 |.sl b off n k=>rfl
 |.map b=>rfl
 |.yield b=>rfl
 |.stamp b i=>rfl
 |.fn f a b=>by simp only[ren,zcy a,zcy b]
 |.iface t v=>by simp only[ren,ziv v]
 |.agg cs=>by simp only[ren,zcy cs]
 |.tup cs=>by simp only[ren,zcy cs]
 |.unk|.bool _|.int _ _|.nilp|.rp _|.nils|.vs _ _|.nilmap|.nilfn|.nilif=>rfl
theorem zcy:∀ l:List AV,renL some l=l
 |[]=>rfl
 |v::l=>by simp only[renL,ziv v,zcy l]
end
theorem zjv:∀ l:List (AV × AV),renE some l=l
 |[]=>rfl
 |(k,v)::l=>by simp only[renE,ziv,zjv l]
theorem zjw (b:AB):renB some b=b:=by
 cases b<;>simp[renB,zcy,zjv]
theorem zer (N:Nat):backN N (List.range N)=some:=by
 funext j
 unfold backN
 by_cases hj:j<N
 ·simp[hj]
 ·rw[List.getElem?_eq_none (by simp;omega)];simp;omega
theorem zdo (H hp:List AB):∀ tc,backH H (List.range H.length) hp tc=overH H hp tc
 |[]=>rfl
 |j::tc=>by
  simp only[backH,overH,zdo H hp tc,zer,zjw]
  rw[List.getD_eq_getElem?_getD]
  by_cases hj:j<H.length
  ·simp[hj]
  ·rw[List.getElem?_eq_none (by simp;omega)]
   have hl:(overH H hp tc).length=H.length:=by rw[← zdo H hp tc,zbo]
   simp only[Option.getD_none]
   rw[List.set_eq_of_length_le (by omega),List.set_eq_of_length_le (by omega)]
theorem zke (H hp:List AB)(tc:List Nat):(overH H hp tc).length=H.length:=by rw[← zdo,zbo]

theorem zwe (h:Hp P E tc0 W L μ H)(hn:r.Nodup)(hr:∀ i,i∈r→i<H.length)(h':Hp P ⟨W,L,muR r μ,r.length⟩ tc W' L' μ' hp):
  Hp P E ((tc.map fun j=>r.getD j H.length).filter (·<E.pin)++tc0) W' L' (backM H.length r μ μ') (backH H r hp tc++(hp.drop r.length).map (renB (backN H.length r))) ∧
  Later L L' W W'∧Ext μ (backM H.length r μ μ')∧(∀ b,L b→L' b)∧Stays H.length μ (backM H.length r μ μ'):=by
 have hrj:∀ {j i},r[j]?=some i→i<H.length:=fun hj=>hr _ (List.mem_of_getElem? hj)
 have pins':∀ {j i},r[j]?=some i→μ' j=μ i∨(μ' j=.dead∧j∈tc∧μ i≠.no):=fun {j i} hj=>by
  have:=h'.pins j (List.getElem?_eq_some_iff.1 hj).1
  simp only[zlu hj] at this
  exact this
 have own':∀ j B,r.length≤j→μ' j=.at B→W.heap.size≤B∨∃ i0 i,i0∈tc∧r[i0]?=some i∧μ i=.at B:=fun j B hj hm=>by
  rcases h'.own j B hj hm with h1|⟨i0,h1,h2⟩
  ·exact .inl h1
  ·obtain ⟨i,h3,h4⟩:=zdi (r:=r) (μ:=μ) (j:=i0) (by simp only at h2;rw[h2];simp)
   exact .inr ⟨i0,i,h1,h3,h4 ▸ h2⟩
 have same':∀ b,b<W.heap.size→(∀ i0 i,i0∈tc→r[i0]?=some i→μ i≠.at b)→W'.heap[b]?=W.heap[b]?:=fun b hb hk=>h'.same b hb fun i0 hi0 he=>by
  simp only at he
  obtain ⟨i,h3,h4⟩:=zdi (r:=r) (μ:=μ) (j:=i0) (by rw[he];simp)
  exact hk i0 i hi0 h3 (h4 ▸ he)
 have hlater:Later L L' W W':=⟨h'.size,fun b hb hl=>same' b hb fun i0 i _ h3 he=>hl (h.sim.live i b he).1,h'.shape,h'.new⟩
 have cases':∀ i,i<H.length→(∃ j,r[j]?=some i∧backM H.length r μ μ' i=μ' j)∨(i∉r∧backM H.length r μ μ' i=μ i):=fun i hi=>by
  by_cases hm:i∈r
  ·obtain ⟨j,hj⟩:=List.getElem?_of_mem hm
   exact .inl ⟨j,hj,zof hn hj hi⟩
  ·exact .inr ⟨hm,zwf hm hi⟩
 have hext:Ext μ (backM H.length r μ μ'):=fun i hi=>by
  have hlt:i<H.length:=by
   rcases Nat.lt_or_ge i H.length with h1|h1
   ·exact h1
   ·exact absurd (h.sim.out i h1) hi
  rcases cases' i hlt with ⟨j,hj,e⟩|⟨_,e⟩
  ·rw[e]
   rcases pins' hj with h1|⟨h1,_⟩
   ·exact .inl h1
   ·exact .inr h1
  ·exact .inl e
 have hstay:Stays H.length μ (backM H.length r μ μ'):=fun i hi hno=>by
  rcases cases' i hi with ⟨j,hj,e⟩|⟨_,e⟩
  ·rw[e]
   rcases pins' hj with h1|⟨_,_,h1⟩
   ·rw[h1];exact hno
   ·exact absurd hno h1
  ·rw[e];exact hno
 have hK:=zft (N:=H.length) (μ:=μ) (μ':=μ') hn hr
 have htc:∀ {j i},j∈tc→r[j]?=some i→i∈tc.map fun j=>r.getD j H.length:=fun {j i} hj hi=>List.mem_map.2 ⟨j,hj,by rw[List.getD_eq_getElem?_getD,hi];rfl⟩
 have hrlen:r.length≤hp.length:=h'.len
 have hget1:∀ i,i<H.length→(backH H r hp tc++(hp.drop r.length).map (renB (backN H.length r)))[i]?=(backH H r hp tc)[i]?:=fun i hi=>List.getElem?_append_left (by rw[zbo];exact hi)
 have hget2:∀ i,H.length≤i→(backH H r hp tc++(hp.drop r.length).map (renB (backN H.length r)))[i]?=(hp[r.length+(i - H.length)]?).map (renB (backN H.length r)):=fun i hi=>by
  rw[List.getElem?_append_right (by rw[zbo];exact hi),zbo,List.getElem?_map,List.getElem?_drop]
 -- where a block lies that a call did not turn
 have hold:∀ {i B},i<H.length→μ i=.at B→(∀ j,j∈tc→r[j]?≠some i)→L' B∧B<W'.heap.size∧∃ b o,H[i]?=some b∧W'.heap[B]?=some o∧BR P W' L' (backM H.length r μ μ') b o:=fun {i B} hi hm hj=>by
  obtain ⟨g1,g2,blk,o,g3,g4,g5⟩:=h.sim.live i B hm
  refine ⟨h'.keep B g1,Nat.lt_of_lt_of_le g2 h'.size,blk,o,g3,?_,g5.mono hlater hext⟩
  rw[same' B g2 ?_]
  ·exact g4
  ·intro i0 i1 h1 h2 h3
   have:=h.sim.inj i i1 B hm h3
   subst this
   exact hj i0 h1 h2
 refine ⟨⟨⟨?_,?_,?_,?_,h'.sim.lt⟩,?_,?_,?_,?_,?_,?_,?_,?_,?_⟩,hlater,hext,h'.keep,hstay⟩
 ·intro i B hm
  by_cases hi:i<H.length
  ·rw[hget1 i hi]
   rcases cases' i hi with ⟨j,hj,e⟩|⟨hnr,e⟩
   ·rw[e] at hm
    by_cases hjt:j∈tc
    ·obtain ⟨g1,g2,blk,o,g3,g4,g5⟩:=h'.sim.live j B hm
     refine ⟨g1,g2,renB (backN H.length r) blk,o,?_,g4,g5.ren _ hK⟩
     rw[zjh hn hi hj hjt,List.getD_eq_getElem?_getD,g3];rfl
    ·have hmi:μ i=.at B:=by
      rcases pins' hj with h1|⟨_,h1,_⟩
      ·rw[← h1];exact hm
      ·exact absurd h1 hjt
     have hne:∀ k,k∈tc→r[k]?≠some i:=fun k hk he=>hjt (zgv hn he hj ▸ hk)
     rw[zdd hi hne]
     exact hold hi hmi hne
   ·rw[e] at hm
    have hne:∀ k,k∈tc→r[k]?≠some i:=fun k _ he=>hnr (List.mem_of_getElem? he)
    rw[zdd hi hne]
    exact hold hi hm hne
  ·have hi':H.length≤i:=by omega
   rw[zdc hi'] at hm
   obtain ⟨g1,g2,blk,o,g3,g4,g5⟩:=h'.sim.live _ B hm
   exact ⟨g1,g2,renB (backN H.length r) blk,o,by rw[hget2 i hi',g3];rfl,g4,g5.ren _ hK⟩
 ·intro i b hd hb
  by_cases hi:i<H.length
  ·rw[hget1 i hi] at hb
   rcases cases' i hi with ⟨j,hj,e⟩|⟨hnr,e⟩
   ·rw[e] at hd
    by_cases hjt:j∈tc
    ·rw[zjh hn hi hj hjt] at hb
     cases hb
     rw[List.getD_eq_getElem?_getD]
     cases hx:hp[j]? with
     |none=>rfl
     |some b0=>rw[h'.sim.dead j b0 hd hx];rfl
    ·have hmi:μ i=.dead:=by
      rcases pins' hj with h1|⟨_,h1,_⟩
      ·rw[← h1];exact hd
      ·exact absurd h1 hjt
     rw[zdd hi fun k hk he=>hjt (zgv hn he hj ▸ hk)] at hb
     exact h.sim.dead i b hmi hb
   ·rw[e] at hd
    rw[zdd hi fun k _ he=>hnr (List.mem_of_getElem? he)] at hb
    exact h.sim.dead i b hd hb
  ·have hi':H.length≤i:=by omega
   rw[zdc hi'] at hd
   rw[hget2 i hi'] at hb
   obtain ⟨b0,h1,rfl⟩:=Option.map_eq_some_iff.1 hb
   rw[h'.sim.dead _ b0 hd h1];rfl
 ·intro i hi
  simp only[List.length_append,zbo,List.length_map,List.length_drop] at hi
  rw[zdc (by omega)]
  exact h'.sim.out _ (by omega)
 ·-- no two in one place
  have hmix:∀ i B,i<H.length→i∉r→μ i=.at B→∀ j,μ' j=.at B→(∀ i1,r[j]?=some i1→i1≠i)→False:=fun i B hi hnr hm j hj hne=>by
   have hlt:=(h.sim.live i B hm).2.1
   rcases Nat.lt_or_ge j r.length with hl|hl
   ·obtain ⟨i1,h1⟩:∃ i1,r[j]?=some i1:=⟨_,List.getElem?_eq_getElem hl⟩
    rcases pins' h1 with e|⟨e,_⟩
    ·have:=h.sim.inj i1 i B (e.symm.trans hj) hm
     exact hne i1 h1 this
    ·rw[e] at hj;cases hj
   ·rcases own' j B hl hj with h1|⟨i0,i1,_,h2,h3⟩
    ·omega
    ·have:=h.sim.inj i1 i B h3 hm
     subst this
     exact hnr (List.mem_of_getElem? h2)
  intro i k B hi hk
  have hsplit:∀ x,backM H.length r μ μ' x=.at B→(x<H.length∧x∉r∧μ x=.at B)∨∃ j,μ' j=.at B∧((r[j]?=some x∧x<H.length)∨(H.length≤x∧j=r.length+(x - H.length))):=fun x hx=>by
   by_cases hxl:x<H.length
   ·rcases cases' x hxl with ⟨j,hj,e⟩|⟨hnr,e⟩
    ·exact .inr ⟨j,e ▸ hx,.inl ⟨hj,hxl⟩⟩
    ·exact .inl ⟨hxl,hnr,e ▸ hx⟩
   ·exact .inr ⟨_,by rw[← zdc (N:=H.length) (r:=r) (μ:=μ) (μ':=μ') (i:=x) (by omega)];exact hx,.inr ⟨by omega,rfl⟩⟩
  have hrne:∀ {x y j},x∉r→((r[j]?=some y∧y<H.length)∨(H.length≤y∧j=r.length+(y - H.length)))→∀ i1,r[j]?=some i1→i1≠x:=fun hx _ i1 h1 he=>hx (he ▸ List.mem_of_getElem? h1)
  rcases hsplit i hi with ⟨a1,a2,a3⟩|⟨j,a1,a2⟩<;>rcases hsplit k hk with ⟨b1,b2,b3⟩|⟨j',b1,b2⟩
  ·exact h.sim.inj i k B a3 b3
  ·exact (hmix i B a1 a2 a3 j' b1 (hrne a2 b2)).elim
  ·exact (hmix k B b1 b2 b3 j a1 (hrne b2 a2)).elim
  ·have hjj:=h'.sim.inj j j' B a1 b1
   subst hjj
   rcases a2 with ⟨a2,_⟩|⟨a2,a3⟩<;>rcases b2 with ⟨b2,_⟩|⟨b2,b3⟩
   ·rw[a2] at b2;exact Option.some.inj b2
   ·have:=(List.getElem?_eq_some_iff.1 a2).1;omega
   ·have:=(List.getElem?_eq_some_iff.1 b2).1;omega
   ·omega
 ·intro i hi
  have hlt:i<H.length:=Nat.lt_of_lt_of_le hi h.len
  have hold':μ i=E.μ i∨(μ i=.dead∧i∈(tc.map fun j=>r.getD j H.length).filter (·<E.pin)++tc0∧E.μ i≠.no):=(h.pins i hi).imp id fun ⟨a,b,c⟩=>⟨a,List.mem_append_right _ b,c⟩
  rcases cases' i hlt with ⟨j,hj,e⟩|⟨hnr,e⟩
  ·rw[e]
   rcases pins' hj with h1|⟨h1,h2,h3⟩
   ·rw[h1];exact hold'
   ·refine .inr ⟨h1,List.mem_append_left _ (List.mem_filter.2 ⟨htc h2 hj,by simpa using hi⟩),?_⟩
    rcases h.pins i hi with e|⟨_,_,e⟩
    ·rw[← e];exact h3
    ·exact e
  ·rw[e];exact hold'
 ·intro i B hi hm
  have hmore:∀ {i0 i1},i0∈tc→r[i0]?=some i1→μ i1=.at B→E.W.heap.size≤B∨∃ i,i∈(tc.map fun j=>r.getD j H.length).filter (·<E.pin)++tc0∧E.μ i=.at B:=fun {i0 i1} h1 h2 h3=>by
   by_cases hp:i1<E.pin
   ·rcases h.pins i1 hp with e|⟨e,_⟩
    ·exact .inr ⟨i1,List.mem_append_left _ (List.mem_filter.2 ⟨htc h1 h2,by simpa using hp⟩),e ▸ h3⟩
    ·rw[e] at h3;cases h3
   ·rcases h.own i1 B (by omega) h3 with e|⟨k,e1,e2⟩
    ·exact .inl e
    ·exact .inr ⟨k,List.mem_append_right _ e1,e2⟩
  have hold':μ i=.at B→E.W.heap.size≤B∨∃ i,i∈(tc.map fun j=>r.getD j H.length).filter (·<E.pin)++tc0∧E.μ i=.at B:=fun hm=>(h.own i B hi hm).imp id fun ⟨k,e1,e2⟩=>⟨k,List.mem_append_right _ e1,e2⟩
  by_cases hlt:i<H.length
  ·rcases cases' i hlt with ⟨j,hj,e⟩|⟨hnr,e⟩
   ·rw[e] at hm
    rcases pins' hj with h1|⟨h1,_⟩
    ·exact hold' (h1 ▸ hm)
    ·rw[h1] at hm;cases hm
   ·exact hold' (e ▸ hm)
  ·rw[zdc (by omega)] at hm
   rcases own' _ B (by omega) hm with h1|⟨i0,i1,h1,h2,h3⟩
   ·exact .inl (Nat.le_trans h.size h1)
   ·exact hmore h1 h2 h3
 ·intro b hb hk
  have hW:W.heap[b]?=E.W.heap[b]?:=h.same b hb fun i hi=>hk i (List.mem_append_right _ hi)
  rw[← hW]
  refine same' b (Nat.lt_of_lt_of_le hb h.size) fun i0 i h1 h2 h3=>?_
  by_cases hp:i<E.pin
  ·rcases h.pins i hp with e|⟨e,_⟩
   ·exact hk i (List.mem_append_left _ (List.mem_filter.2 ⟨htc h1 h2,by simpa using hp⟩)) (e ▸ h3)
   ·rw[e] at h3;cases h3
  ·rcases h.own i b (by omega) h3 with e|⟨k,e1,e2⟩
   ·omega
   ·exact hk k (List.mem_append_right _ e1) e2
 ·exact Nat.le_trans h.size h'.size
 ·intro b o e
  obtain ⟨o1,e1,s1⟩:=h.shape b o e
  obtain ⟨o2,e2,s2⟩:=h'.shape b o1 e1
  exact ⟨o2,e2,s1.trans s2⟩
 ·exact fun b hb=>h'.keep b (h.keep b hb)
 ·intro b hb
  rcases h'.new b hb with h1|h1
  ·exact h.new b h1
  ·exact .inr (Nat.le_trans h.size h1)
 ·exact ⟨h'.env.1.trans h.env.1,h'.env.2.1.trans h.env.2.1,h'.env.2.2.trans h.env.2.2⟩
 ·simp only[List.length_append,zbo]
  have:=h.len;omega

theorem zin (h:Hp P E tc0 W L μ H)(h':Hp P ⟨W,L,μ,H.length⟩ tc W' L' μ' hp):
  ∃ μ'',Hp P E (tc.filter (·<E.pin)++tc0) W' L' μ'' (overH H hp tc++hp.drop H.length)∧Later L L' W W'∧Ext μ μ''∧(∀ b,L b→L' b)∧Stays H.length μ μ''∧∀ j,μ'' j=μ' j:=by
 have hnr:(List.range H.length).Nodup:=List.nodup_range
 have hrr:∀ i,i∈List.range H.length→i<H.length:=fun i hi=>by simpa using hi
 have n3:Hp P ⟨W,L,muR (List.range H.length) μ,(List.range H.length).length⟩ tc W' L' μ' hp:=by
  rw[zuc h.sim,List.length_range];exact h'
 obtain ⟨o1,o2,o3,o4,o5⟩:=zwe h hnr hrr n3
 have hK:=zft (N:=H.length) (μ:=μ) (μ':=μ') hnr hrr
 rw[List.length_range,zdo,zer,show (hp.drop H.length).map (renB some)=hp.drop H.length by rw[show (renB some)=id from funext zjw];simp] at o1
 rw[zer] at hK
 refine ⟨_,o1.more ?_,o2,o3,o4,o5,fun j=>hK j j rfl⟩
 intro i hi
 rcases List.mem_append.1 hi with hi|hi
 ·obtain ⟨hi,hip⟩:=List.mem_filter.1 hi
  obtain ⟨k,hk,rfl⟩:=List.mem_map.1 hi
  refine List.mem_append_left _ (List.mem_filter.2 ⟨?_,hip⟩)
  rw[List.getD_eq_getElem?_getD] at hip ⊢
  by_cases hkl:k<H.length
  ·simpa [hkl] using hk
  ·rw[List.getElem?_eq_none (by simp;omega)] at hip
   have:=h.len
   simp at hip;omega
 ·exact List.mem_append_right _ hi
end

theorem zdu:∀ {l:List AV} {x:AV},refsL l=[]→x∈l→refs x=[]
 |v::l,x,h,hx=>by
  simp only[refsL,List.append_eq_nil_iff] at h
  rcases List.mem_cons.1 hx with rfl|hx
  ·exact h.1
  ·exact zdu h.2 hx

structure TblOk (P:Program) (C:Cfg):Prop where
 fns : ∀ f fn, C.fns f = some fn → ∃ F, P.funcs[f]? = some F ∧ (F.name == "runtime.NumGoroutine")=false∧compFn P F=some fn.strip
 ext : ∀ f g, C.ext f = some g → (∃ F, P.funcs[f]? = some F ∧ (F.name == "runtime.NumGoroutine")=false∧F.body.isNone=false) ∧
  ∀ (args:List AV) (v:AV) (rargs:Array Value) (W:World) (L:Nat→Prop) (μ:Mu),g args=some v→VL W L μ args rargs.toList →
   CallsIn Fence.wide 0 P f rargs W fun e W'=>(∃ w,e=.returned w∧∀ W L μ,VR W L μ v w)∧Below W.heap.size W W'
 exth : ∀ f g, C.exth f = some g → (∃ F, P.funcs[f]? = some F ∧ (F.name == "runtime.NumGoroutine")=false∧F.body.isNone=false) ∧
  ∀ (args:List AV) (H:List AB) (v:AV) (rargs:Array Value) (W:World) (L:Nat→Prop) (μ:Mu),g args H=some v→VL W L μ args rargs.toList→Sim P W L μ H→Globs C W L →
   CallsIn Fence.wide 0 P f rargs W fun e W'=>(∃ w,e=.returned w∧VR W' L nomu v w)∧Below W.heap.size W W'
 dfk:∀ f t ag,C.dfk f=some (t,ag)→DfOk P f t ag

theorem zhh {P:Program}{F:Func}{fn:AFunc}(h:compFn P F=some fn.strip):∃ c,F.body=some c∧compCode P c=some (strip fn.body)∧compRes P F.results.toList=some fn.res∧F.ntmps=fn.ntmps:=by
 unfold compFn at h
 split at h
 ·rename_i c r h1 h2
  obtain ⟨c',h3,h4⟩:=Option.map_eq_some_iff.1 h
  have e1:=congrArg AFunc.ntmps h4
  have e2:=congrArg AFunc.res h4
  have e3:=congrArg AFunc.body h4
  simp only[AFunc.strip] at e1 e2 e3
  subst e3 e2
  exact ⟨c,h1,h3,h2,e1⟩
 ·cases h

section
variable {P:Program} {E:Ent} {C:Cfg} {W W':World} {L L':Nat→Prop} {μ μ':Mu} {tc tc0:List Nat} {H:List AB} {call:CallF}

theorem CRel.ren {x:CRes}{e:Ending}(h:CRel W L μ x e)(σ:Nat→Option Nat)(hs:∀ i j,σ i=some j→μ' j=μ i):CRel W L μ' (x.map (ren σ)) e:=by
 cases x<;>cases e<;>simp only[CRel,CRes.map] at h ⊢
 ·exact h.ren σ hs
 ·obtain ⟨w,h1,h2⟩:=h;exact ⟨w,h1,h2.ren σ hs⟩

theorem zsb {x x2:CRes}{hp hp2:List AB}{e:Ending}(h:Hp P E tc W L μ hp)(hr:CRel W L μ x e)(ht:tidy E.pin x hp=(x2,hp2)):∃ μ',Hp P E tc W L μ' hp2∧CRel W L μ' x2 e:=by
 unfold tidy at ht
 simp only at ht
 generalize hr1:reach hp fuelR ((List.range E.pin).flatMap fun i=>refsB (hp.getD i .dead)) (List.range E.pin)=r1 at ht
 obtain ⟨⟨m1,e1⟩,n1⟩:=zcp hp fuelR ((List.range E.pin).flatMap fun i=>refsB (hp.getD i .dead)) (List.range E.pin) (nodup_range _)
 rw[hr1] at e1 n1
 generalize hr2:reach hp fuelR (refs x.val) r1=r at ht
 obtain ⟨⟨m2,e2⟩,n2⟩:=zcp hp fuelR (refs x.val) r1 n1
 rw[hr2] at e2 n2
 have hpin:∀ i,i<E.pin→r[i]?=some i:=fun i hi=>by
  rw[e2,e1,List.append_assoc,List.getElem?_append_left (by simpa using hi)]
  simp[hi]
 cases ht
 exact ⟨muR r μ,h.part n2 hpin,hr.ren _ zdv⟩

theorem zna {x x2:CRes}{hp hp2:List AB}{e:Ending}(h:Hp P E tc W L μ hp)(hr:CRel W L μ x e)(ht:tidyC C E.pin x hp=(x2,hp2)):∃ μ',Hp P E tc W L μ' hp2∧CRel W L μ' x2 e:=by
 unfold tidyC at ht
 cases hb:(C.calm || Nat.ble hp.length (E.pin+C.gcAt))<;>rw[hb] at ht
 ·exact zsb h hr ht
 ·cases ht;exact ⟨μ,h,hr⟩

theorem CRel.same {x:CRes}{e:Ending}(h:CRel W L μ x e)(hs:∀ j,μ' j=μ j):CRel W L μ' x e:=by
 rw[show μ'=μ from funext hs];exact h

theorem VR.bare {v:AV}{r:Value}(hv:VR W L μ v r):refs v=[]→VR W L μ' v r:=by
  induction hv with
  |unk=>intro _;exact .unk
  |dead h1=>intro hr;rename_i v _ _ _ _;cases v<;>simp[headRef] at h1<;>simp[refs] at hr
  |bool=>intro _;exact .bool
  |int=>intro _;exact .int
  |nilp=>intro _;exact .nilp
  |ptr=>intro hr;simp[refs] at hr
  |rp rs h1 h2=>intro _;exact .rp rs h1 h2
  |nils=>intro _;exact .nils
  |sl=>intro hr;simp[refs] at hr
  |vs rs h1 h2 h3 h4=>intro _;exact .vs rs h1 h2 h3 h4
  |vs0=>intro _;exact .vs0
  |nilmap=>intro _;exact .nilmap
  |map=>intro hr;simp[refs] at hr
  |nilfn=>intro _;exact .nilfn
  |fn hf h1 h2 h3 h4 ih1 ih2=>
   intro hr
   simp only[refs,List.append_eq_nil_iff] at hr
   exact .fn hf h1 (fun i x r a b=>ih1 i x r a b (zdu hr.1 (List.mem_of_getElem? a))) h3 (fun i x r a b=>ih2 i x r a b (zdu hr.2 (List.mem_of_getElem? a)))
  |yield=>intro hr;simp[refs] at hr
  |stamp=>intro hr;simp[refs] at hr
  |nilif=>intro _;exact .nilif
  |iface _ ih=>intro hr;exact .iface (ih (by simpa [refs] using hr))
  |agg h1 h2 ih=>intro hr;exact .agg h1 fun i x r a b=>ih i x r a b (zdu (by simpa [refs] using hr) (List.mem_of_getElem? a))
  |tup h1 h2 ih=>intro hr;exact .tup h1 fun i x r a b=>ih i x r a b (zdu (by simpa [refs] using hr) (List.mem_of_getElem? a))
theorem CRel.bare {x:CRes}{e:Ending}(h:CRel W L μ x e)(hb:(refs x.val)=[]):CRel W L μ' x e:=by
 cases x<;>cases e<;>simp only[CRel,CRes.val] at h hb ⊢
 ·exact h.bare hb
 ·obtain ⟨w,h1,h2⟩:=h;exact ⟨w,h1,h2.bare hb⟩

mutual
theorem ziw (hno:∀ i,μ i≠.no→True):∀ (v:AV) {x:Value},VR W L μ v x→∀ b,b∈refs v→μ b≠.no
 |.ptr b off,x,h,c,hc=>by
  simp[refs] at hc;subst hc
  cases h with
  |dead h1 h2=>simp[headRef] at h1;subst h1;rw[h2];simp
  |ptr h1=>rw[h1];simp
 |.sl b off n k,x,h,c,hc=>by
  simp[refs] at hc;subst hc
  cases h with
  |dead h1 h2=>simp[headRef] at h1;subst h1;rw[h2];simp
  |sl h1=>rw[h1];simp
 |.map b,x,h,c,hc=>by
  simp[refs] at hc;subst hc
  cases h with
  |dead h1 h2=>simp[headRef] at h1;subst h1;rw[h2];simp
  |map h1=>rw[h1];simp
 |.stamp b i,x,h,c,hc=>by
  simp[refs] at hc;subst hc
  cases h with
  |dead h1 h2=>simp[headRef] at h1;subst h1;rw[h2];simp
  |stamp h1=>rw[h1];simp
 |.yield b,x,h,c,hc=>by
  simp[refs] at hc;subst hc
  cases h with
  |dead h1 h2=>simp[headRef] at h1;subst h1;rw[h2];simp
  |yield h1=>rw[h1];simp
 |.fn f as bs,x,h,c,hc=>by
  obtain ⟨rf,rc,_,_,h1,h2⟩:=vr_fn h
  simp only[refs,List.mem_append] at hc
  rcases hc with hc|hc
  ·exact zcs hno as h1 c hc
  ·exact zcs hno bs h2 c hc
 |.iface t v,x,h,c,hc=>by
  obtain ⟨y,_,h1⟩:=zbu h
  exact ziw hno v h1 c (by simpa [refs] using hc)
 |.agg cs,x,h,c,hc=>by
  obtain ⟨rs,_,h1⟩:=vr_agg h
  exact zcs hno cs h1 c (by simpa [refs] using hc)
 |.tup cs,x,h,c,hc=>by
  obtain ⟨rs,_,h1⟩:=vr_tup h
  exact zcs hno cs h1 c (by simpa [refs] using hc)
 |.unk,_,_,_,hc=>by simp[refs] at hc
 |.bool _,_,_,_,hc=>by simp[refs] at hc
 |.int _ _,_,_,_,hc=>by simp[refs] at hc
 |.nilp,_,_,_,hc=>by simp[refs] at hc
 |.rp _,_,_,_,hc=>by simp[refs] at hc
 |.nils,_,_,_,hc=>by simp[refs] at hc
 |.vs _ _,_,_,_,hc=>by simp[refs] at hc
 |.nilmap,_,_,_,hc=>by simp[refs] at hc
 |.nilfn,_,_,_,hc=>by simp[refs] at hc
 |.nilif,_,_,_,hc=>by simp[refs] at hc
theorem zcs (hno:∀ i,μ i≠.no→True):∀ (l:List AV) {xs:List Value},VL W L μ l xs→∀ b,b∈refsL l→μ b≠.no
 |[],_,_,c,hc=>by simp[refsL] at hc
 |v::l,xs,h,c,hc=>by
  simp only[refsL,List.mem_append] at hc
  match xs,h with
  |x::xs,h=>
   rcases hc with hc|hc
   ·exact ziw hno v h.head c hc
   ·exact zcs hno l h.tail c hc
  |[],h=>have:=h.1;simp at this
end

theorem znh:∀ {es:List (AV × AV)} {res:List MapEntry},es.length=res.length→(∀ (i:Nat) (k v:AV) (e:MapEntry),es[i]?=some (k,v)→res[i]?=some e→VR W L μ k e.key∧VR W L μ v e.val)→∀ b,b∈refsE es→μ b≠.no
 |[],_,_,_,c,hc=>by simp[refsE] at hc
 |(k,v)::es,res,hl,h,c,hc=>by
   match res,hl,h with
   |e::res,hl,h=>
    obtain ⟨h1,h2⟩:=h 0 k v e rfl rfl
    simp only[refsE,List.mem_append] at hc
    rcases hc with hc|hc|hc
    ·exact ziw (fun _ _=>trivial) k h1 c hc
    ·exact ziw (fun _ _=>trivial) v h2 c hc
    ·exact znh (by simpa using hl) (fun i k v e a b=>h (i+1) k v e (by simpa using a) (by simpa using b)) c hc
   |[],hl,_=>simp at hl

theorem zxp {b:AB}{o:Obj}(h:BR P W L μ b o):∀ c,c∈refsB b→μ c≠.no:=by
 intro c hc
 cases h with
 |@cells cs rs t h1 h2=>
  have hvl : VL W L μ cs (rs.toList.take cs.length) := ⟨by simp; omega, fun i x r hx hr => by
   have hi:i<cs.length:=(List.getElem?_eq_some_iff.1 hx).1
   rw[List.getElem?_take_of_lt hi] at hr
   exact h2 i x r hx (by simpa using hr)⟩
  exact zcs (fun _ _=>trivial) cs hvl c (by simpa [refsB] using hc)
 |map _ h1 h2=>exact znh (by rw[Array.length_toList];exact h1) (fun i k v e a b=>h2 i k v e a (by simpa using b)) c (by simpa [refsB] using hc)
 |loop h1 h2 h3 h4 h5 h6 h7=>
  simp only[refsB,List.mem_cons] at hc
  rcases hc with rfl|hc
  ·rcases h7 with h7|h7<;>rw[h7]<;>simp
  ·exact zcs (fun _ _=>trivial) _ h3 c hc
 |dfr=>simp[refsB] at hc
 |dead=>simp[refsB] at hc

theorem zen (h:Sim P W L μ H):∀ (n:Nat) (todo acc:List Nat),(∀ b,b∈todo→μ b≠.no)→(∀ b,b∈acc→μ b≠.no)→∀ b,b∈reach H n todo acc→μ b≠.no
 |0,_,acc,_,ha,b,hb=>ha b (by simpa [reach] using hb)
 |n+1,[],acc,_,ha,b,hb=>ha b (by simpa [reach] using hb)
 |n+1,c::todo,acc,ht,ha,b,hb=>by
  simp only[reach] at hb
  split at hb
  ·exact zen h n todo acc (fun b hb=>ht b (List.mem_cons_of_mem _ hb)) ha b hb
  ·have hc:=ht c (List.mem_cons_self ..)
   refine zen h n _ _ (fun d hd=>?_) (fun d hd=>?_) b hb
   ·rcases List.mem_append.1 hd with hd|hd
    ·rw[List.getD_eq_getElem?_getD] at hd
     cases hcb:H[c]? with
     |none=>rw[hcb] at hd;simp[refsB] at hd
     |some blk=>
      rw[hcb] at hd
      simp only[Option.getD_some] at hd
      cases hm:μ c with
      |no=>exact absurd hm hc
      |dead=>rw[h.dead c blk hm hcb] at hd;simp[refsB] at hd
      |«at» B=>
       obtain ⟨_,_,blk',o,e1,_,e3⟩:=h.live c B hm
       rw[hcb] at e1;cases e1
       exact zxp e3 d hd
    ·exact ht d (List.mem_cons_of_mem _ hd)
   ·rcases List.mem_append.1 hd with hd|hd
    ·exact ha d hd
    ·simp at hd;subst hd;exact hc

def RdOk (E:Ent)(F:Fence)(rd:Option Nat):Prop:=match rd with
 |none=>F.round=none
 |some l=>∃ B,F.round=some B∧l<E.pin∧E.μ l=.at B

theorem zyo (hT:TblOk P C)(hcall:CallOk P C call)(hrange:∀ E,RangeOk P E C call Fence.wide none){f:Nat}{args:List AV}{rargs:Array Value}{x:CRes}{H':List AB}(hx:enter C call f args H=some (x,H',tc))
  (h:Hp P E tc0 W L μ H) (hg:Globs C W L) (hv:VL W L μ args rargs.toList):CallsIn Fence.wide 0 P f rargs W (CPost P E tc0 W L μ H.length x H' tc):=by
 unfold enter at hx
 split at hx
 ·rename_i g hext
  obtain ⟨v,hgv,he⟩:=Option.map_eq_some_iff.1 hx
  cases he
  refine ((hT.ext f g hext).2 args v rargs W L μ hgv hv).mono ?_
  rintro e W' ⟨⟨w,rfl,hw⟩,hb⟩
  obtain ⟨q1,q2⟩:=h.below hb
  exact ⟨L,μ,hw _ _ _,q1.more (fun i hi=>List.mem_append_right _ hi),q2,Ext.refl _,fun _ h=>h,fun _ _ h=>h⟩
 ·split at hx
  ·rename_i g hext
   obtain ⟨v,hgv,he⟩:=Option.map_eq_some_iff.1 hx
   cases he
   refine ((hT.exth f g hext).2 args H v rargs W L μ hgv hv h.sim hg).mono ?_
   rintro e W' ⟨⟨w,rfl,hw⟩,hb⟩
   obtain ⟨q1,q2⟩:=h.below hb
   exact ⟨L,μ,hw.lift,q1.more (fun i hi=>List.mem_append_right _ hi),q2,Ext.refl _,fun _ h=>h,fun _ _ h=>h⟩
  split at hx
  ·cases hx
  ·rename_i fn hfn
   obtain ⟨F,f1,_,f3⟩:=hT.fns f fn hfn
   obtain ⟨c,g1,g2,g3,g4⟩:=zhh f3
   have main:∀ (μ0:Mu) (args0:List AV) (H0:List AB),Hp P ⟨W,L,μ0,H0.length⟩ [] W L μ0 H0→VL W L μ0 args0 rargs.toList→∀ (e:AExit) (st:St),ev C call H0.length none fn.body { tm:=args0++List.replicate (fn.ntmps - args0.length) .unk,df:=[],hp:=H0,tc:=[] }=some (e,st) →
     ∀ (x1:CRes) (st1:St),finish C H0.length fn e st=some (x1,st1)→(∀ e W',FPost P C ⟨W,L,μ0,H0.length⟩ x1 st1 e W'→CPost P E tc0 W L μ H.length x H' tc e W')→CallsIn Fence.wide 0 P f rargs W (CPost P E tc0 W L μ H.length x H' tc):=by
    intro μ0 args0 H0 hE hv0 e st hev x1 st1 hfin hmono
    refine callsIn_of_wp_marks f1 g1 trivial ?_
    have hs0:SR P C ⟨W,L,μ0,H0.length⟩ { tm:=args0++List.replicate (fn.ntmps - args0.length) .unk,df:=[],hp:=H0,tc:=[] } { tmps:=rargs++Array.replicate (F.ntmps - rargs.size) undef,defers:=[] } W:=by
     refine ⟨L,μ0,hE,⟨?_,hg⟩,.nil⟩
     rw[Array.toList_append,Array.toList_replicate,g4,show rargs.size=args0.length from by have:=hv0.1;simpa using this.symm]
     exact hv0.append (VL.replicate _ .unk)
    have hwp:=ev_ok (F:=Fence.wide) (rd:=none) hcall ⟨fun _=>trivial,rfl,rfl⟩ (fun _=>rfl) (hrange _) c fn.body _ _ _ _ _ hev g2 hs0
    refine wpIn_mono hwp ?_
    intro ex a W1 hsees
    have hfp:=zvf hT.dfk g3 hfin hsees
    have hLm:∀ ds u W',LeavesInM Fence.wide 0 P F a.tmps (FPost P C ⟨W,L,μ0,H0.length⟩ x1 st1) ds u W'→LeavesInM Fence.wide 0 P F a.tmps (CPost P E tc0 W L μ H.length x H' tc) ds u W':=by
     intro ds
     induction ds with
     |nil=>
      intro u W' hh
      cases u with
      |run=>exact hh.elim
      |returning=>obtain ⟨v,hv,hR⟩:=hh;exact ⟨v,hv,hmono _ _ hR⟩
      |panicking chain=>exact hmono _ _ hh
     |cons d ds ih=>
      rintro u W' ⟨h1,h2⟩
      refine ⟨h1,?_⟩
      rcases h2 with ⟨r,w',k1,k2,k3⟩|⟨k0,fv,cap,f,args,k1,k2,k3,k4⟩
      ·exact .inl ⟨r,w',k1,k2,ih _ _ k3⟩
      ·refine .inr ⟨k0,fv,cap,f,args,k1,k2,k3,k4.mono ?_⟩
       intro e u' w' hh
       cases e with
       |returned v=>exact ih _ _ hh
       |panicked chain=>exact ih _ _ hh
       |outgrown=>exact hmono _ _ hh
    cases ex with
    |normal=>exact hLm _ _ _ hfp
    |ret=>exact hLm _ _ _ hfp
    |panic chain=>exact hLm _ _ _ hfp
    |outgrown=>exact hmono _ _ hfp
    |exit j=>exact hfp.elim
    |goto l=>exact hfp.elim
   cases hwh:C.whole f<;>rw[hwh] at hx<;>simp only[cond_true,cond_false] at hx
   case true=>
    split at hx
    ·rename_i e st hev
     split at hx
     ·rename_i x1 st1 hfin
      refine main μ args H (Hp.start h.sim) hv e st hev x1 st1 hfin ?_
      rintro en W2 ⟨L2,μ2,q1,q2,q3⟩
      cases hbq:bareQ x1.val st1.tc<;>rw[hbq] at hx<;>simp only[cond_true,cond_false] at hx
      ·cases htd:tidyC C H.length x1 st1.hp with
       |mk x2 hp2=>
       rw[htd] at hx
       simp only at hx
       cases hx
       obtain ⟨μ3,q4,q5⟩:=zna (E:=⟨W,L,μ,H.length⟩) q1 q2 htd
       obtain ⟨μ4,b1,b2,b3,b4,b5,b6⟩:=zin h q4
       exact ⟨L2,μ4,q5.same b6,b1,b2,b3,b4,b5⟩
      ·cases hx
       simp only[bareQ,Bool.and_eq_true,List.isEmpty_iff] at hbq
       have q1':=q1.part (r:=List.range H.length) List.nodup_range (fun i hi=>by simp only at hi;simp[hi])
       rw[hbq.1] at q1'
       obtain ⟨μ4,b1,b2,b3,b4,b5,b6⟩:=zin h q1'
       simp only[overH] at b1
       rw[List.drop_eq_nil_of_le (by rw[zcj];simp),List.append_nil] at b1
       exact ⟨L2,μ4,q2.bare hbq.2,b1,b2,b3,b4,b5⟩
     ·cases hx
    ·cases hx
   have hn:(reach H fuelR (refsL args) []).Nodup:=(zcp H fuelR (refsL args) [] List.nodup_nil).2
   have hkn:∀ b,b∈reach H fuelR (refsL args) []→μ b≠.no:=zen h.sim _ _ _ (zcs (fun _ _=>trivial) args hv) (fun b hb=>by cases hb)
   generalize reach H fuelR (refsL args) []=r at hx hn hkn
   have hr:∀ i,i∈r→i<H.length:=fun i hi=>by
    rcases Nat.lt_or_ge i H.length with h1|h1
    ·exact h1
    ·exact absurd (h.sim.out i h1) (hkn i hi)
   have hE:Hp P ⟨W,L,muR r μ,r.length⟩ [] W L (muR r μ) (restrict H r):=by
    have:=Hp.start (P:=P) (h.sim.part hn)
    rwa [zcj] at this
   split at hx
   ·rename_i e st hev
    split at hx
    ·rename_i x1 st1 hfin
     have hlr:(restrict H r).length=r.length:=zcj
     have hla:(renL (place r) args).length=args.length:=by rw[zdt,List.length_map]
     refine main (muR r μ) (renL (place r) args) (restrict H r) (by rw[hlr];exact hE) (hv.ren _ zdv) e st (by rw[hlr,hla];exact hev) x1 st1 (by rw[hlr];exact hfin) ?_
     rintro en W2 ⟨L2,μ2,q1,q2,q3⟩
     rw[hlr] at q1
     cases htd:tidy r.length x1 st1.hp with
     |mk x2 hp2=>
     rw[htd] at hx
     simp only at hx
     cases hx
     obtain ⟨μ3,q4,q5⟩:=zsb (E:=⟨W,L,muR r μ,r.length⟩) q1 q2 htd
     obtain ⟨b1,b2,b3,b4,b5⟩:=zwe h hn hr q4
     exact ⟨L2,_,q5.ren _ (zft hn hr),b1,b2,b3,b4,b5⟩
    ·cases hx
   ·cases hx
end

theorem zjk {P:Program}{F:Fence}(hF:Wide (P:=P) F)(l:Nat):Wide (P:=P) (F.inRound l):=⟨hF.fn,hF.depth,hF.fenced⟩

section
variable {P:Program} {E:Ent} {C:Cfg} {W W':World} {L L':Nat→Prop} {μ μ':Mu} {tc tc0:List Nat} {H:List AB} {call:CallF}

theorem ztq {p:Option AExit}{j:Option Code}(h:PE p j):(p=none∧j=none)∨(∃ i,p=some (.exit i)∧j=some (.exit i))∨(p=some .ret∧j=some .ret):=by
 unfold PE at h
 split at h
 ·exact .inl ⟨rfl,rfl⟩
 ·subst h;exact .inr (.inl ⟨_,rfl,rfl⟩)
 ·exact .inr (.inr ⟨rfl,rfl⟩)
 ·exact h.elim

theorem ls_eq {s:LSt}{t:LoopState}(h:LS s t):(s=.busy↔t=.busy)∧(s=.ready↔t=.ready):=by
 cases s<;>cases t<;>first|exact h.elim|simp

theorem ziz (h:Sim P W L μ H){l:Nat}{r:ALoop}(hl:H[l]?=some (.loop r))(hno:μ l≠.no):∃ B R,μ l=.at B∧L B∧W.heap[B]?=some (.loop R)∧BR P W L μ (.loop r) (.loop R):=by
 cases hm:μ l with
 |no=>exact absurd hm hno
 |dead=>cases h.dead l _ hm hl
 |«at» B=>
  obtain ⟨hL,_,blk,o,e1,e2,e3⟩:=h.live l B hm
  rw[hl] at e1;cases e1
  cases e3 with
  |loop h1 h2 h3 h4 h5 h6 h7=>exact ⟨B,_,rfl,hL,e2,.loop h1 h2 h3 h4 h5 h6 h7⟩

theorem zpq {B:Nat}{R:Loop}{o':Obj}(h:W.heap[B]?=some (.loop R)):Upd B o' W (W.putObj B o'):=
 (zcf (P:=default) (o':=o') h (by intro c t f;simp)).2

theorem Hp.putLoop (h:Hp P E tc W L μ H){l B:Nat}{R:Loop}{o':Obj}{blk:AB}(hm:μ l=.at B)(ho:W.heap[B]?=some (.loop R))(hb:BR P W L μ blk o'):
  Hp P E ([l].filter (·<E.pin)++tc) (W.putObj B o') L μ (H.set l blk)∧Later L L W (W.putObj B o'):=
 h.put hm ho (zpq ho) (.ofCells (fun rs t f hc=>by cases hc) fun _ _=>by simp) hb

theorem zni (hcall:CallOk P C call){F:Fence}(hF:Wide (P:=P) F){rd:Option Nat}(hrd:RdOk E F rd):RangeOk P E C call F rd:=by
 intro g ps as bd g0 ps0 as0 bd0 st st' e a W hx hc hs
 simp only[compCode] at hc
 split at hc
 ·rename_i g' a' b' k1 k2 k3
  simp only[strip] at hc
  cases hc
  obtain ⟨L,μ,h1,h2,h3⟩:=hs
  have hgv:=zat h2 k1
  simp only[ev] at hx
  split at hx
  ·rename_i gf first captured hval
   rw[hval] at hgv
   obtain ⟨rf,rc,hrf,_,v1,v2⟩:=vr_fn hgv
   refine wpIn_rangeFunc fun fn _=>?_
   -- the loop is entered
   obtain ⟨d,hp0,df,W1,L1,μ1,D,mark,rec,hd,hent,q1,q2,q3,q4,q5,q6⟩:∃ (d:Nat) (hp0:List AB) (df:List ADef) (W1:World) (L1:Nat→Prop) (μ1:Mu) (D:Nat) (mark:List Deferred) (rec:Loop),
     (match (generalizing := false) call (.fn (.func gf) first captured) [.yield hp0.length] (hp0 ++ [.loop ⟨.ready, none, st.tm, ps0.toList, as, bd, d⟩]) with
      | some (.ret _, hp', tc) => (match (generalizing := false) hp'[hp0.length]? with
       |some (.loop r)=>if r.st=.busy then none else some (r.pend.getD .normal,{ st with df:=df,hp:=hp'.set hp0.length .dead,tc:=tc.filter (·<E.pin)++st.tc })
       |_=>none)
      |some (.pan v,hp',tc)=>some (.panic v,{ st with df:=df,hp:=hp',tc:=tc.filter (·<E.pin)++st.tc })
      |none=>none)=some (e,st') ∧
     (Instr.enterLoop fn a.tmps ps0 as0 bd0 F.round).run P W=.ok (W1.heap.size,mark) (W1.alloc (.loop rec)) ∧
     rec={ state:=.ready,pending:=none,fn,tmps:=a.tmps,params:=ps0,assign:=as0,body:=bd0,defers:=D } ∧
     Hp P E st.tc W1 L1 μ1 hp0∧Later L L1 W W1∧Ext μ μ1∧(μ1 d=.at D∨μ1 d=.dead)∧DR W1 L1 μ1 df (mark++a.defers):=by
    cases rd with
    |none=>
     have hro:F.round=none:=hrd
     have p1:=h1.push [.dfr]
     obtain ⟨p2,p3,p4⟩:=p1.mat (j:=st.hp.length) (blk:=.dfr) (o:=.deferred (some [])) (by simp) (h1.sim.out _ (Nat.le_refl _)) h1.len .dfr
     refine ⟨_,_,_,W.alloc (.deferred (some [])),_,_,W.heap.size,[{ target:=.collected W.heap.size,args:=#[] }],_,hx,?_,rfl,p2,p3,p4,.inl (zbc ..),?_⟩
     ·rw[hro,run_enterLoop_outer]
      rw[show (W.alloc (.deferred (some []))).heap.size=W.heap.size+1 from World.size_alloc ..]
     ·exact .cons (.mark (.inl (zbc ..))) (h3.mono p3 p4)
    |some l=>
     obtain ⟨B,hro,hlp,hEB⟩:=hrd
     simp only at hx ⊢
     cases hl:st.hp[l]? with
     |none=>rw[hl] at hx;simp at hx
     |some blk=>
      rw[hl] at hx
      cases blk with
      |loop r=>
       have hno:μ l≠.no:=by
        rcases h1.pins l hlp with e|⟨e,_⟩
        ·rw[e,hEB];simp
        ·rw[e];simp
       obtain ⟨B',R,e1,_,e2,e3⟩:=ziz h1.sim hl hno
       have hBB:B'=B:=by
        rcases h1.pins l hlp with e|⟨e,_⟩
        ·rw[e,hEB] at e1;cases e1;rfl
        ·rw[e] at e1;cases e1
       subst hBB
       refine ⟨r.dfr,st.hp,st.df,W,L,μ,R.defers,[],_,hx,?_,rfl,h1,Later.refl _ _,Ext.refl _,?_,h3⟩
       ·rw[hro];exact run_enterLoop_inner e2 fn a.tmps ps0 as0 bd0
       ·cases e3 with
        |loop _ _ _ _ _ _ h7=>exact h7
      |_=>simp at hx
   clear hx
   have hx:=hd
   clear hd
   -- its record
   have hrecbr:BR P W1 L1 μ1 (.loop ⟨.ready,none,st.tm,ps0.toList,as,bd,d⟩) (.loop rec):=by
    subst q1
    exact .loop trivial trivial ((h2.mono q3 q4).tmps) rfl k2 k3 q5
   have r1:=q2.push [.loop ⟨.ready,none,st.tm,ps0.toList,as,bd,d⟩]
   obtain ⟨r2,r3,r4⟩:=r1.mat (j:=hp0.length) (o:=.loop rec) (by simp) (q2.sim.out _ (Nat.le_refl _)) q2.len hrecbr
   have hyv:VR (W1.alloc (.loop rec)) (fun b=>L1 b∨b=W1.heap.size) (updM μ1 hp0.length (.at W1.heap.size)) (.yield hp0.length) (.func (.yield W1.heap.size) #[] #[]):=.yield (zbc ..)
   have hlat:Later L (fun b=>L1 b∨b=W1.heap.size) W (W1.alloc (.loop rec)):=by
    refine ⟨by simp;have:=q3.size;omega,fun b hb hl=>?_,fun b o0 e=>?_,fun b hb=>?_⟩
    ·exact (Below.heap_alloc _ _ _ (Nat.lt_of_lt_of_le hb q3.size)).trans (q3.same b hb hl)
    ·obtain ⟨rs',e1,e2⟩:=q3.shape b o0 e
     exact ⟨rs',(Below.heap_alloc _ _ _ (Array.getElem?_eq_some_iff.1 e1).1).trans e1,e2⟩
    ·rcases hb with hb|rfl
     ·exact q3.new b hb
     ·exact .inr q3.size
   have hext:Ext μ (updM μ1 hp0.length (.at W1.heap.size)):=q4.trans r4
   have hg2:Globs C (W1.alloc (.loop rec)) (fun b=>L1 b∨b=W1.heap.size):=Globs.mono h2.glob hlat
   have hdr2:DR (W1.alloc (.loop rec)) (fun b=>L1 b∨b=W1.heap.size) (updM μ1 hp0.length (.at W1.heap.size)) df (mark++a.defers):=q6.mono r3 r4
   have henv2:=h2.mono hlat hext
   have hgo:∀ {x:CRes} {hp':List AB} {tc':List Nat},call (.fn (.func gf) first captured) [.yield hp0.length] (hp0++[.loop ⟨.ready,none,st.tm,ps0.toList,as,bd,d⟩])=some (x,hp',tc') →
     CallsIn F 0 P gf (rf.toArray++#[.func (.yield W1.heap.size) #[] #[]]++rc.toArray) (W1.alloc (.loop rec)) (CPost P E st.tc (W1.alloc (.loop rec)) (fun b=>L1 b∨b=W1.heap.size) (updM μ1 hp0.length (.at W1.heap.size)) (hp0++[AB.loop ⟨.ready,none,st.tm,ps0.toList,as,bd,d⟩]).length x hp' tc') ∧
     (invoke (.fn (.func gf) rc.toArray) (rf.toArray++#[.func (.yield W1.heap.size) #[] #[]])).run P (W1.alloc (.loop rec))=.ok (.enter gf (rf.toArray++#[.func (.yield W1.heap.size) #[] #[]]++rc.toArray)) (W1.alloc (.loop rec)):=by
    intro x hp' tc' hcx
    have hinv:(invoke (.fn (.func gf) rc.toArray) (rf.toArray++#[.func (.yield W1.heap.size) #[] #[]])).run P (W1.alloc (.loop rec))=.ok (.enter gf (rf.toArray++#[.func (.yield W1.heap.size) #[] #[]]++rc.toArray)) (W1.alloc (.loop rec)):=by
     simp only[invoke];exact hcall.fn hcx _ _
    refine ⟨?_,hinv⟩
    obtain ⟨r,W',g1,g2⟩:=hcall.sound hcx r2 hg2 (rf:=.func (.func gf) rf.toArray rc.toArray) (rargs:=#[.func (.yield W1.heap.size) #[] #[]]) (by rw[← hrf];exact hgv.mono hlat hext) (VL.cons hyv VL.nil)
    have e:(do let d ← Deferred.ofValue (.func (.func gf) rf.toArray rc.toArray) #[.func (.yield W1.heap.size) #[] #[]];invoke d.target d.args:Sem Next).run P (W1.alloc (.loop rec))=.ok (.enter gf (rf.toArray++#[.func (.yield W1.heap.size) #[] #[]]++rc.toArray)) (W1.alloc (.loop rec)):=by
     simp only[Deferred.ofValue,Sem.run_bind,Sem.run_pure,Result.andThen]
     exact hinv
    rw[e] at g1
    cases g1
    exact zfd hF g2
   have hres:(resolve a.eval (rangeCall g0 W1.heap.size) 0).run P (W1.alloc (.loop rec))=.ok { target:=.fn (.func gf) rc.toArray,args:=rf.toArray++#[.func (.yield W1.heap.size) #[] #[]] } (W1.alloc (.loop rec)):=by
    simp only[resolve,hrf]
    simp[go_sem,Deferred.ofValue]
   split at hx
   ·rename_i v hp' tc' hcx
    obtain ⟨c1,c2⟩:=hgo hcx
    refine ⟨W1.heap.size,mark,_,_,_,gf,_,_,hent,hres,fun f _=>hF.fn f,c2,fun hh=>by simp[hF.depth] at hh,c1.mono ?_⟩
    rintro en W3 ⟨L3,μ3,p1,p2,p3,p4,p5,p6⟩
    cases en<;>simp only[CRel] at p1
    rename_i w
    split at hx
    ·rename_i r hr
     split at hx
     ·cases hx
     ·rename_i hnb
      have hat:μ3 hp0.length=.at W1.heap.size∨μ3 hp0.length=.dead:=by
       have:=p4 hp0.length (by rw[zbc];simp)
       rwa [zbc] at this
      obtain ⟨B3,R3,e1,_,e2,e3⟩:=ziz p2.sim hr (by rcases hat with h|h<;>rw[h]<;>simp)
      have hB:B3=W1.heap.size:=by
       rcases hat with h|h
       ·rw[h] at e1;cases e1;rfl
       ·rw[h] at e1;cases e1
      subst hB
      have hls:LS r.st R3.state∧PE r.pend R3.pending:=by
       cases e3 with
       |loop h1 h2 _ _ _ _ _=>exact ⟨h1,h2⟩
      have hend:=run_endLoop (P:=P) e2 (fun h=>hnb ((ls_eq hls.1).1.2 h))
      obtain ⟨y1,y2⟩:=p2.putLoop (o':=.loop { R3 with state:=.exhausted }) (blk:=.dead) e1 e2 .dead
      have hsr:SR P C E { st with df:=df,hp:=hp'.set hp0.length .dead,tc:=tc'.filter (·<E.pin)++st.tc } { a with defers:=mark++a.defers } (W3.putObj W1.heap.size (.loop { R3 with state:=.exhausted })):=by
       have he:=(henv2.mono p3 p4).mono y2 (Ext.refl _)
       refine ⟨L3,μ3,y1.more ?_,⟨he.tmps,he.glob⟩,(hdr2.mono p3 p4).mono y2 (Ext.refl _)⟩
       intro i hi
       rcases List.mem_append.1 hi with hi|hi
       ·have:=List.mem_filter.1 hi
        simp at this
        have:=q2.len
        omega
       ·exact hi
      cases hx
      refine ⟨_,_,hend,?_⟩
      clear hend y1 y2
      revert hsr
      generalize W3.putObj W1.heap.size _=W4
      intro hsr
      rcases ztq hls.2 with ⟨j1,j2⟩|⟨i,j1,j2⟩|⟨j1,j2⟩<;>rw[j1,j2]
      ·exact ⟨rfl,hsr⟩
      ·exact wpIn_exit ⟨rfl,hsr⟩
      ·exact wpIn_ret ⟨rfl,hsr⟩
    ·cases hx
   ·rename_i v hp' tc' hcx
    obtain ⟨c1,c2⟩:=hgo hcx
    refine ⟨W1.heap.size,mark,_,_,_,gf,_,_,hent,hres,fun f _=>hF.fn f,c2,fun hh=>by simp[hF.depth] at hh,c1.mono ?_⟩
    rintro en W3 ⟨L3,μ3,p1,p2,p3,p4,p5,p6⟩
    cases en<;>simp only[CRel] at p1
    obtain ⟨w,rfl,hw⟩:=p1
    cases hx
    have he:=henv2.mono p3 p4
    exact ⟨v,w,rfl,rfl,L3,μ3,p2,⟨he.tmps,he.glob⟩,hdr2.mono p3 p4,hw⟩
   ·cases hx
  ·cases hx
 ·cases hc

theorem zfw:∀ {ps:List Nat} {as:List AV} {xs:List Value} {tm:List AV} {tmps:Array Value},as.length=ps.length→VL W L μ as xs→VL W L μ tm tmps.toList →
  VL W L μ (setParams tm ps as) ((ps.zip xs).foldl (fun t (p,v)=>t.setIfInBounds p v) tmps).toList
 |[],[],[],tm,tmps,_,_,h=>by simpa [setParams] using h
 |p::ps,a::as,x::xs,tm,tmps,hl,hv,h=>by
  simp only[setParams,List.zip_cons_cons,List.foldl_cons]
  refine zfw (by simpa using hl) hv.tail ?_
  rw[Array.toList_setIfInBounds]
  exact h.set p hv.head
 |_,[],_::_,_,_,_,hv,_=>by have:=hv.1;simp at this
 |_,_::_,[],_,_,_,hv,_=>by have:=hv.1;simp at this
 |[],_::_,_,_,_,hl,_,_=>by simp at hl
 |_::_,[],_,_,_,hl,_,_=>by simp at hl

theorem zxh (hcall:CallOk P C call){l:Nat}{args:List AV}{rf:Value}{rargs:Array Value}{x:CRes}{H':List AB}(hx:round C call l args H=some (x,H',tc))
  (h:Hp P E tc0 W L μ H) (hg:Globs C W L) (hf:VR W L μ (.yield l) rf) (hv:VL W L μ args rargs.toList):GoesTo P rf rargs W (CPost P E tc0 W L μ H.length x H' tc):=by
 unfold round at hx
 split at hx
 ·rename_i r hl
  split at hx
  ·rename_i hcond
   obtain ⟨hready,hlen⟩:=hcond
   have hno:μ l≠.no:=by
    cases hf with
    |dead h1 h2=>simp[headRef] at h1;subst h1;rw[h2];simp
    |yield h1=>rw[h1];simp
   obtain ⟨B,R,hB,hLB,hR,hbr⟩:=ziz h.sim hl hno
   have hrf:rf=.func (.yield B) #[] #[]:=by
    cases hf with
    |dead h1 h2=>simp[headRef] at h1;subst h1;rw[h2] at hB;cases hB
    |yield h1=>rw[h1] at hB;cases hB;rfl
   subst hrf
   obtain ⟨b1,b2,b3,b4,b5,b6⟩:LS r.st R.state∧PE r.pend R.pending∧VL W L μ r.tm R.tmps.toList∧R.params.toList=r.params∧compCode P R.assign=some (strip r.assign)∧compCode P R.body=some (strip r.body):=by
    cases hbr with
    |loop h1 h2 h3 h4 h5 h6 _=>exact ⟨h1,h2,h3,h4,h5,h6⟩
   have hsz:rargs.size=R.params.size:=by
    have:=hv.1
    rw[hlen,← b4] at this
    simpa using this.symm
   have hrun:(do let d ← Deferred.ofValue (.func (.yield B) #[] #[]) rargs;invoke d.target d.args:Sem Next).run P W=.ok (.round B R.fn ((R.params.zip rargs).foldl (fun tmps (t,a)=>tmps.setIfInBounds t a) R.tmps) R.assign R.body) W:=by
    simp only[Deferred.ofValue,Sem.run_bind,Sem.run_pure,Result.andThen,invoke]
    rw[show (#[]++rargs:Array Value)=rargs by simp]
    exact run_yield hR hsz
   refine ⟨_,_,hrun,?_⟩
   have hlt:l<H.length:=(List.getElem?_eq_some_iff.1 hl).1
   have hF:Wide (P:=P) (Fence.wide.inRound B):=zjk ⟨fun _=>trivial,rfl,rfl⟩ B
   have hE:=Hp.start (P:=P) h.sim
   have hrange:RangeOk P ⟨W,L,μ,H.length⟩ C call (Fence.wide.inRound B) (some l):=zni hcall hF ⟨B,rfl,hlt,hB⟩
   refine roundIn_of_wpIn trivial ?_
   split at hx
   ·rename_i st hev
    have hs0:SR P C ⟨W,L,μ,H.length⟩ { tm:=setParams r.tm r.params args,df:=[],hp:=H,tc:=[] } { tmps:=(R.params.zip rargs).foldl (fun tmps (t,a)=>tmps.setIfInBounds t a) R.tmps,defers:=[] } W:=by
     refine ⟨L,μ,hE,⟨?_,hg⟩,.nil⟩
     have:=zfw (ps:=r.params) (as:=args) (xs:=rargs.toList) (tm:=r.tm) (tmps:=R.tmps) hlen hv b3
     rw[← Array.foldl_toList,Array.toList_zip,b4]
     exact this
    refine wpIn_mono (ev_ok (E:=⟨W,L,μ,H.length⟩) hcall hF (fun hh=>by simp at hh) hrange R.assign r.assign _ _ _ _ _ hev b5 hs0) ?_
    intro ex a1 W1 hsees
    split at hx
    ·rename_i r1 hl1
     split at hx
     ·rename_i hready1
      cases ex with
      |normal=>
       obtain ⟨_,L1,μ1,h1,h2,h3⟩:=hsees
       have hat:∀ {tc1 W1 L1 μ1 H1},Hp P ⟨W,L,μ,H.length⟩ tc1 W1 L1 μ1 H1→∀ {r1},H1[l]?=some (.loop r1)→μ1 l=.at B∧∃ R1,W1.heap[B]?=some (.loop R1)∧BR P W1 L1 μ1 (.loop r1) (.loop R1):=by
        intro tc1 W1 L1 μ1 H1 h1 r1 hl1
        have hpin:=h1.pins l hlt
        obtain ⟨B1, R1, e1, _, e2, e3⟩ := ziz h1.sim hl1 (by
         rcases hpin with e|⟨e,_⟩
         ·rw[e];exact hno
         ·rw[e];simp)
        rcases hpin with e|⟨e,_⟩
        ·simp only at e;rw[e,hB] at e1;cases e1;exact ⟨e.trans hB,R1,e2,e3⟩
        ·rw[e] at e1;cases e1
       obtain ⟨a1',R1,e2,e3⟩:=hat h1 hl1
       obtain ⟨c1,c2,c3,c4,c5,c6,c7⟩:LS r1.st R1.state∧PE r1.pend R1.pending∧VL W1 L1 μ1 r1.tm R1.tmps.toList∧R1.params.toList=r1.params∧compCode P R1.assign=some (strip r1.assign)∧compCode P R1.body=some (strip r1.body)∧(μ1 r1.dfr=.at R1.defers∨μ1 r1.dfr=.dead):=by
        cases e3 with
        |loop h1 h2 h3 h4 h5 h6 h7=>exact ⟨h1,h2,h3,h4,h5,h6,h7⟩
       have hbeg:=run_beginRound (P:=P) e2 ((ls_eq c1).2.1 hready1)
       refine ⟨_,hbeg,?_⟩
       have hbusy:BR P W1 L1 μ1 (.loop { r1 with st:=.busy }) (.loop { R1 with state:=.busy }):=.loop trivial c2 c3 c4 c5 c6 c7
       obtain ⟨d1,d2⟩:=h1.putLoop a1' e2 hbusy
       have hs1:SR P C ⟨W,L,μ,H.length⟩ { st with hp:=st.hp.set l (.loop { r1 with st:=.busy }),tc:=l::st.tc } a1 (W1.putObj B (.loop { R1 with state:=.busy })):=by
        refine ⟨L1,μ1,d1.more ?_,h2.mono d2 (Ext.refl _),h3.mono d2 (Ext.refl _)⟩
        intro i hi
        rcases List.mem_append.1 hi with hi|hi
        ·have:=(List.mem_filter.1 hi).1;simp at this;subst this;exact List.mem_cons_self ..
        ·exact List.mem_cons_of_mem _ hi
       split at hx
       ·rename_i e2' st2 hev2
        refine wpIn_mono (ev_ok (E:=⟨W,L,μ,H.length⟩) hcall hF (fun hh=>by simp at hh) hrange R.body r.body _ _ _ _ _ hev2 b6 hs1) ?_
        intro ex2 a2 W2 hsees2
        have hfin:∀ (p:Option AExit) (j:Option Code),PE p j→SR P C ⟨W,L,μ,H.length⟩ st2 a2 W2→∀ r2,st2.hp[l]?=some (.loop r2) →
          (let hp := st2.hp.set l (.loop { r2 with st := if p.isNone then .ready else .done, pend := p })
           let (x,hp):=tidyC C H.length (.ret (.bool p.isNone)) hp
           some (x,overH H hp (l::st2.tc)++hp.drop H.length,l::st2.tc))=some (x,H',tc) →
          ∃ v w',(Instr.endRound B j).run P W2=.ok v w'∧CPost P E tc0 W L μ H.length x H' tc (.returned v) w':=by
         rintro p j hpj ⟨L2,μ2,k1,k2,k3⟩ r2 hl2 hx
         obtain ⟨a2',R2,f2,f3⟩:=hat k1 hl2
         have hpn:p.isNone=j.isNone:=by
          rcases ztq hpj with ⟨rfl,rfl⟩|⟨i,rfl,rfl⟩|⟨rfl,rfl⟩<;>rfl
         refine ⟨_,_,run_endRound j f2,?_⟩
         have hnew:BR P W2 L2 μ2 (.loop { r2 with st:=if p.isNone then .ready else .done,pend:=p }) (.loop { R2 with state:=if j.isNone then .ready else .done,pending:=j }):=by
          cases f3 with
          |loop h1 h2 h3 h4 h5 h6 h7=>
           refine .loop ?_ hpj h3 h4 h5 h6 h7
           rw[hpn];split<;>trivial
         obtain ⟨m1,m2⟩:=k1.putLoop a2' f2 hnew
         have m3 : Hp P ⟨W, L, μ, H.length⟩ (l :: st2.tc) (W2.putObj B (.loop { R2 with state := if j.isNone then .ready else .done, pending := j })) L2 μ2 (st2.hp.set l (.loop { r2 with st := if p.isNone then .ready else .done, pend := p })) := m1.more (by
          intro i hi
          rcases List.mem_append.1 hi with hi|hi
          ·have:=(List.mem_filter.1 hi).1;simp at this;subst this;exact List.mem_cons_self ..
          ·exact List.mem_cons_of_mem _ hi)
         simp only at hx
         cases htd:tidyC C H.length (.ret (.bool p.isNone)) (st2.hp.set l (.loop { r2 with st:=if p.isNone then .ready else .done,pend:=p })) with
         |mk x2 hp2=>
         rw[htd] at hx
         simp only at hx
         cases hx
         obtain ⟨μ3,n1,n2⟩:=zna (e:=.returned (.bool j.isNone)) m3 (by simp only[CRel];rw[hpn];exact .bool) htd
         obtain ⟨μ4,o1,o2,o3,o4,o5,o6⟩:=zin h n1
         exact ⟨L2,μ4,n2.same o6,o1,o2,o3,o4,o5⟩
        cases ex2 with
        |normal=>
         obtain ⟨rfl,hs2⟩:=hsees2
         simp only at hx
         split at hx<;>first|contradiction|skip
         rename_i _ _ _ _ r2 hl2 _
         exact hfin none none trivial hs2 _ hl2 hx
        |ret=>
         obtain ⟨rfl,hs2⟩:=hsees2
         simp only at hx
         split at hx<;>first|contradiction|skip
         rename_i _ _ _ _ r2 hl2 _
         exact hfin (some .ret) (some .ret) trivial hs2 _ hl2 hx
        |exit id=>
         obtain ⟨rfl,hs2⟩:=hsees2
         simp only at hx
         split at hx<;>first|contradiction|skip
         rename_i _ _ _ _ r2 hl2 _
         exact hfin (some (.exit id)) (some (.exit id)) rfl hs2 _ hl2 hx
        |panic ch=>
         obtain ⟨v,w,rfl,_⟩:=hsees2
         simp at hx
        |goto t=>exact hsees2.elim
        |outgrown=>exact hsees2.elim
       ·cases hx
      |_=>first|exact hsees.elim|(obtain ⟨hh,_⟩:=hsees;cases hh;done)|(obtain ⟨_,_,hh,_⟩:=hsees;cases hh;done)
     ·cases hx
    ·cases hx
   ·cases hx
  ·cases hx
 ·cases hx

theorem zkd {hp:List AB}{b:Nat}:∀ {tc:List Nat},b∉tc→(overH H hp tc)[b]?=H[b]?
 |[],_=>rfl
 |j::tc,h=>by
  simp only[overH]
  rw[List.getElem?_set_ne (by rintro rfl;exact h (List.mem_cons_self ..))]
  exact zkd fun hm=>h (List.mem_cons_of_mem _ hm)
theorem zkc {hp:List AB}{tc:List Nat}:Kept H (overH H hp tc++hp.drop H.length) tc:=
 ⟨by simp [zke], fun b hb hn => by
  rw[List.getElem?_append_left (by rw[zke];exact hb)]
  exact zkd hn⟩
theorem zqs {f:Nat}{args:List AV}{x:CRes}{H':List AB}(hx:enter C call f args H=some (x,H',tc)):Kept H H' tc:=by
 unfold enter at hx
 split at hx
 ·obtain ⟨v,hgv,he⟩:=Option.map_eq_some_iff.1 hx
  cases he;exact .refl _ _
 split at hx
 ·obtain ⟨v,hgv,he⟩:=Option.map_eq_some_iff.1 hx
  cases he;exact .refl _ _
 ·split at hx
  ·cases hx
  ·cases hwh:C.whole f<;>rw[hwh] at hx<;>simp only[cond_true,cond_false] at hx
   ·split at hx
    ·split at hx
     ·cases hx
      refine ⟨by simp[zbo],fun b hb hn=>?_⟩
      rw[List.getElem?_append_left (by rw[zbo];exact hb)]
      refine zdd hb fun j hj he=>hn (List.mem_map.2 ⟨j,hj,?_⟩)
      rw[List.getD_eq_getElem?_getD,he];rfl
     ·cases hx
    ·cases hx
   ·split at hx
    ·split at hx
     ·rename_i x1 st1 _
      cases hbq:bareQ x1.val st1.tc<;>rw[hbq] at hx<;>simp only[cond_true,cond_false] at hx
      ·cases hx;exact zkc
      ·cases hx;exact .refl _ _
     ·cases hx
    ·cases hx
theorem zpd {l:Nat}{args:List AV}{x:CRes}{H':List AB}(hx:round C call l args H=some (x,H',tc)):Kept H H' tc:=by
 unfold round at hx
 repeat' split at hx
 all_goals first|(cases hx;done)|skip
 all_goals
  simp only at hx
  cases hx
  exact zkc

theorem zmq (hT:TblOk P C):∀ n,CallOk P C (Ev.call C n)
 |0=>⟨fun f args H x H' tc h=>(by simp[Ev.call] at h),fun h=>(by simp[Ev.call] at h),fun h=>(by simp[Ev.call] at h)⟩
 |n+1=>by
  have ih:=zmq hT n
  have hrange:∀ E,RangeOk P E C (Ev.call C n) Fence.wide none:=fun E=>zni ih ⟨fun _=>trivial,rfl,rfl⟩ rfl
  have hfn:∀ {f:Nat} {args:List AV} {H:List AB} {r:CRes × List AB × List Nat},enter C (Ev.call C n) f args H=some r→∀ (rargs:Array Value) (W:World),(callFunc f rargs).run P W=.ok (.enter f rargs) W:=by
   intro f args H r hx rargs W
   unfold enter at hx
   split at hx
   ·rename_i g hext
    obtain ⟨⟨F,f1,f2,f3⟩,_⟩:=hT.ext f g hext
    exact zch f1 f2 f3 _ _
   ·split at hx
    ·rename_i g hext
     obtain ⟨⟨F,f1,f2,f3⟩,_⟩:=hT.exth f g hext
     exact zch f1 f2 f3 _ _
    split at hx
    ·cases hx
    ·rename_i fn hfn
     obtain ⟨F,f1,f2,f3⟩:=hT.fns f fn hfn
     obtain ⟨c,g1,_⟩:=zhh f3
     exact zch f1 f2 (by rw[g1];rfl) _ _
  refine ⟨fun f args H x H' tc hx=>?_,fun {f first captured args H r} hx=>?_,?_⟩
  ·simp only[Ev.call] at hx
   split at hx
   ·exact zqs hx
   ·exact zpd hx
   ·cases hx
  ·simp only[Ev.call] at hx
   exact hfn hx
  ·intro E tc0 W L μ H f args rf rargs x H' tc hx h hg hf hv
   simp only[Ev.call] at hx
   split at hx
   ·rename_i f first captured
    obtain ⟨r1,r2,rfl,_,v1,v2⟩:=vr_fn hf
    have hinv:(do let d ← Deferred.ofValue (.func (.func f) r1.toArray r2.toArray) rargs;invoke d.target d.args:Sem Next).run P W=.ok (.enter f (r1.toArray++rargs++r2.toArray)) W:=by
     simp only[Deferred.ofValue,Sem.run_bind,Sem.run_pure,Result.andThen,invoke]
     exact hfn hx _ _
    refine ⟨_,_,hinv,?_⟩
    refine zyo hT ih hrange hx h hg ?_
    simp only[Array.toList_append]
    exact (v1.append hv).append v2
   ·exact zxh ih hx h hg hf hv
   ·cases hx
end
end Ev
end Go.Proofs.YtfpepkbflnendaaGreat
namespace Go.Proofs.YtfpepkbflnendaaGreat
open Go
namespace Ev
namespace Q
set_option linter.unusedVariables false
inductive T (α:Type) where
 |e (k:Nat)
 |v (x:α)
 |n (k:Nat) (l r:T α)

inductive R where
 |no
 |norm (tr:T AV) (df:List ADef) (hp:T AB) (n:Nat) (tc:List Nat)
 |exit (id:Nat) (tr:T AV) (df:List ADef) (hp:T AB) (n:Nat) (tc:List Nat)
 |ret (tr:T AV) (df:List ADef) (hp:T AB) (n:Nat) (tc:List Nat)
 |pan (v:AV) (tr:T AV) (df:List ADef) (hp:T AB) (n:Nat) (tc:List Nat)
 |cret (v:AV) (hp:T AB) (n:Nat) (tc:List Nat)
 |cpan (v:AV) (hp:T AB) (n:Nat) (tc:List Nat)

section
variable {α:Type}
noncomputable def getP:T α→Nat→α→α:=fun tr=>T.rec (motive:=fun _=>Nat→α→α) (fun _ _ d=>d) (fun x _ _=>x) (fun k _ _ ihl ihr t d=>Nat.rec (ihl t d) (fun _ _=>ihr t d) (Nat.land t (Nat.pow 2 k))) tr
noncomputable def setE:Nat→Nat→α→(T α→R)→R:=fun k=>Nat.rec (motive:=fun _=>Nat→α→(T α→R)→R) (fun _ v K=>K (.v v))
 (fun k ih t v K=>Nat.rec (ih t v fun l=>K (.n k l (.e k))) (fun _ _=>ih t v fun r=>K (.n k (.e k) r)) (Nat.land t (Nat.pow 2 k))) k
noncomputable def setK:T α→Nat→α→(T α→R)→R:=fun tr=>T.rec (motive:=fun _=>Nat→α→(T α→R)→R) (fun k t v K=>setE k t v K) (fun _ _ v K=>K (.v v))
 (fun k l r ihl ihr t v K=>Nat.rec (ihl t v fun l'=>K (.n k l' r)) (fun _ _=>ihr t v fun r'=>K (.n k l r')) (Nat.land t (Nat.pow 2 k))) tr
end

noncomputable def natK (n:Nat)(K:Nat→R):R:=Nat.rec (K 0) (fun m _=>K (Nat.succ m)) n
noncomputable def boolK (b:Bool)(K:Bool→R):R:=Bool.rec (K false) (K true) b
noncomputable def intK (n:Int)(K:Int→R):R:=Int.rec (fun m=>natK m fun m=>K (Int.ofNat m)) (fun m=>natK m fun m=>K (Int.negSucc m)) n
noncomputable def forceV:AV→(AV→R)→R:=fun v=>AV.rec (motive_1:=fun _=>(AV→R)→R) (motive_2:=fun _=>(List AV→R)→R)
 (fun K=>K .unk) (fun b K=>boolK b fun b=>K (.bool b)) (fun k n K=>intK n fun n=>K (.int k n)) (fun K=>K .nilp)
 (fun b off K=>natK b fun b=>natK off fun off=>K (.ptr b off)) (fun cs _ K=>K (.rp cs)) (fun K=>K .nils)
 (fun b off n k K=>natK b fun b=>natK off fun off=>natK n fun n=>natK k fun k=>K (.sl b off n k)) (fun k es _ K=>K (.vs k es)) (fun K=>K .nilmap)
 (fun b K=>natK b fun b=>K (.map b)) (fun K=>K .nilfn) (fun f _ _ ih1 ih2 K=>ih1 fun a=>ih2 fun b=>K (.fn f a b)) (fun b K=>natK b fun b=>K (.yield b)) (fun K=>K .nilif)
 (fun t _ ih K=>ih fun v=>K (.iface t v)) (fun _ ih K=>ih fun l=>K (.agg l)) (fun _ ih K=>ih fun l=>K (.tup l)) (fun b i K=>natK b fun b=>natK i fun i=>K (.stamp b i))
 (fun K=>K []) (fun _ _ ihv ihl K=>ihv fun v=>ihl fun l=>K (v::l)) v
noncomputable def forceL:List AV→(List AV→R)→R:=fun l=>List.rec (motive:=fun _=>(List AV→R)→R) (fun K=>K []) (fun x _ ih K=>forceV x fun v=>ih fun l=>K (v::l)) l
noncomputable def forceNs:List Nat→(List Nat→R)→R:=fun l=>List.rec (motive:=fun _=>(List Nat→R)→R) (fun K=>K []) (fun x _ ih K=>natK x fun v=>ih fun l=>K (v::l)) l
noncomputable def forceE:List (AV × AV)→(List (AV × AV)→R)→R:=fun l=>List.rec (motive:=fun _=>(List (AV × AV)→R)→R) (fun K=>K []) (fun x _ ih K=>Prod.rec (fun a b=>forceV a fun a=>forceV b fun b=>ih fun l=>K ((a,b)::l)) x) l
noncomputable def lstK (s:LSt)(K:LSt→R):R:=LSt.rec (K .ready) (K .busy) (K .done) (K .exhausted) s
noncomputable def optK (p:Option AExit)(K:Option AExit→R):R:=Option.rec (K none) (fun e=>K (some e)) p
noncomputable def forceLp (r:ALoop)(K:ALoop→R):R:=ALoop.rec (fun st pend tm params assign body dfr=>lstK st fun st=>optK pend fun pend=>forceL tm fun tm=>natK dfr fun d=>K ⟨st,pend,tm,params,assign,body,d⟩) r
noncomputable def forceB (b:AB)(K:AB→R):R:=AB.rec (fun cs=>forceL cs fun cs=>K (.cells cs)) (fun es=>forceE es fun es=>K (.map es)) (fun r=>forceLp r fun r=>K (.loop r)) (K .dfr) (K .dead) b

noncomputable def catL:List AV→List AV→(List AV→R)→R:=fun l=>List.rec (motive:=fun _=>List AV→(List AV→R)→R) (fun m K=>K m) (fun x _ ih m K=>ih m fun l=>K (x::l)) l
noncomputable def lenL:List AV→Nat:=fun l=>List.rec (motive:=fun _=>Nat) 0 (fun _ _ ih=>Nat.succ ih) l
noncomputable def lenNs:List Nat→Nat:=fun l=>List.rec (motive:=fun _=>Nat) 0 (fun _ _ ih=>Nat.succ ih) l

def cap:Nat:=7
noncomputable def listT (N:Nat)(tr:T AV):List AV:=(List.range N).map fun i=>getP tr i .unk
noncomputable def listH (n:Nat)(hp:T AB):List AB:=(List.range n).map fun i=>getP hp i .dead
noncomputable def val (N:Nat)(tr:T AV)(x:Opnd):AV:=Opnd.rec (fun t=>Bool.rec .unk (getP tr t .unk) (Nat.ble (Nat.succ t) N)) (fun v=>v) (fun _=>.unk) x
noncomputable def asInt (v:AV)(K:IntKind→Int→R):R:=AV.rec (motive_1:=fun _=>R) (motive_2:=fun _=>Unit) .no (fun _=>.no) (fun k n=>K k n) .no (fun _ _=>.no) (fun _ _=>.no) .no (fun _ _ _ _=>.no) (fun _ _ _=>.no) .no (fun _=>.no) .no (fun _ _ _ _ _=>.no) (fun _=>.no) .no (fun _ _ _=>.no) (fun _ _=>.no) (fun _ _=>.no) (fun _ _=>.no) () (fun _ _ _ _=>()) v
noncomputable def asBool (v:AV)(K:Bool→R):R:=AV.rec (motive_1:=fun _=>R) (motive_2:=fun _=>Unit) .no (fun b=>K b) (fun _ _=>.no) .no (fun _ _=>.no) (fun _ _=>.no) .no (fun _ _ _ _=>.no) (fun _ _ _=>.no) .no (fun _=>.no) .no (fun _ _ _ _ _=>.no) (fun _=>.no) .no (fun _ _ _=>.no) (fun _ _=>.no) (fun _ _=>.no) (fun _ _=>.no) () (fun _ _ _ _=>()) v
noncomputable def asAgg (v:AV)(K:List AV→R):R:=AV.rec (motive_1:=fun _=>R) (motive_2:=fun _=>Unit) .no (fun _=>.no) (fun _ _=>.no) .no (fun _ _=>.no) (fun _ _=>.no) .no (fun _ _ _ _=>.no) (fun _ _ _=>.no) .no (fun _=>.no) .no (fun _ _ _ _ _=>.no) (fun _=>.no) .no (fun _ _ _=>.no) (fun l _=>K l) (fun _ _=>.no) (fun _ _=>.no) () (fun _ _ _ _=>()) v
noncomputable def fits:IntKind→Int→Bool:=fun k n=>Int.rec
 (fun m=>Nat.ble m (IntKind.rec 127 32767 2147483647 9223372036854775807 255 65535 4294967295 18446744073709551615 k))
 (fun m=>Nat.ble (Nat.succ m) (IntKind.rec 128 32768 2147483648 9223372036854775808 0 0 0 0 k)) n
noncomputable def wrapK (k:IntKind)(n:Int)(K:Int→R):R:=intK n fun n=>Bool.rec (intK (k.wrap n) K) (K n) (fits k n)
noncomputable def subNN (m n:Nat):Int:=Nat.rec (Int.ofNat (Nat.sub m n)) (fun d _=>Int.negSucc d) (Nat.sub n m)
noncomputable def addI (x y:Int):Int:=Int.rec (fun a=>Int.rec (fun b=>Int.ofNat (Nat.add a b)) (fun b=>subNN a (Nat.succ b)) y) (fun a=>Int.rec (fun b=>subNN b (Nat.succ a)) (fun b=>Int.negSucc (Nat.succ (Nat.add a b))) y) x
noncomputable def leI (x y:Int):Bool:=Int.rec (fun a=>Int.rec (fun b=>Nat.ble a b) (fun _=>false) y) (fun a=>Int.rec (fun _=>true) (fun b=>Nat.ble b a) y) x
noncomputable def notB (b:Bool):Bool:=Bool.rec true false b
noncomputable def andB (a b:Bool):Bool:=Bool.rec false b a
abbrev FK:=AV→T AB→Nat→List Nat→R
abbrev CallQ:=AV→List AV→T AB→Nat→R
abbrev SO:=CallQ→Nat→T AV→T AB→Nat→FK→FK→R
noncomputable def ends (r:R)(K P:FK):R:=R.rec .no (fun _ _ _ _ _=>.no) (fun _ _ _ _ _ _=>.no) (fun _ _ _ _ _=>.no) (fun _ _ _ _ _ _=>.no) (fun v hp n tc=>K v hp n tc) (fun v hp n tc=>P v hp n tc) r
noncomputable def apartN:List Nat→List Nat→Bool:=fun ys xs=>List.rec true (fun x _ ih=>andB (List.rec true (fun y _ ih=>andB (notB (Nat.beq x y)) ih) ys) ih) xs
noncomputable def flOk:List (Nat × List Nat)→Nat→List Nat→Bool:=fun fl deps tc=>List.rec true (fun _ _ _=>List.rec true (fun p _ ih=>andB (Nat.rec (apartN tc p.2) (fun _ _=>true) (Nat.land deps (Nat.pow 2 p.1))) ih) fl) tc
noncomputable def putT' (tr:T AV)(dst:Option Nat)(v:AV)(K:T AV→R):R:=Option.rec (K tr) (fun d=>setK tr d v K) dst
noncomputable def filterN (pin:Nat):List Nat→List Nat→(List Nat→R)→R:=fun l=>List.rec (motive:=fun _=>List Nat→(List Nat→R)→R) (fun tc K=>K tc)
 (fun x _ ih tc K=>ih tc fun r=>Bool.rec (K r) (K (x::r)) (Nat.ble (Nat.succ x) pin)) l
abbrev OK:=List (Nat × List Nat)→T AV→List ADef→T AB→Nat→List Nat→R
abbrev OG:=CallQ→Nat→Nat→Bool→Bool→AOp→List (Nat × List Nat)→T AV→List ADef→T AB→Nat→List Nat→OK→R
noncomputable def goS (f:SO):OG:=fun call pin N nod drawn o fl tr df hp n tc K=>f call N tr hp n
 (fun v hp n t=>Bool.rec .no (filterN pin t tc fun tc=>putT' tr o.dst v fun tr=>K fl tr df hp n tc) (Bool.rec true (flOk fl o.deps t) drawn))
 (fun v hp n t=>Bool.rec .no (filterN pin t tc fun tc=>.pan v tr df hp n tc) (Bool.rec true (flOk fl o.deps t) drawn))
def okO (N:Nat):Opnd→Bool
 |.tmp t=>Nat.ble (Nat.succ t) N
 |_=>true
section
variable (C:Cfg) (call:CallQ)
noncomputable def bare (v:AV)(tc:List Nat):Bool:=List.rec (List.rec true (fun _ _ _=>false) (refs v)) (fun _ _ _=>false) tc
end
end Q
namespace Q
section
variable {α:Type}
def at?:T α→Nat→Option α
 |.e _,_=>none
 |.v x,_=>some x
 |.n k l r,t=>if t.testBit k then at? r t else at? l t
inductive WF:Nat→T α→Prop
 |e (k:Nat):WF k (.e k)
 |v (x:α):WF 0 (.v x)
 |n {k:Nat} {l r:T α}:WF k l→WF k r→WF (k+1) (.n k l r)

end

def WT (N:Nat)(tr:T AV):Prop:=∃ k,WF k tr∧N≤2 ^ k
structure WH (n:Nat) (hp:T AB):Prop where
 wf:WF cap hp
 le:n≤2 ^ cap
 there:∀ i,i<n→(at? hp i).isSome=true
@[simp] theorem zcq (n:Nat) (K:Nat→R):natK n K=K n:=by cases n<;>rfl
@[simp] theorem ybb (b:Bool) (K:Bool→R):boolK b K=K b:=by cases b<;>rfl
@[simp] theorem zlz (n:Int) (K:Int→R):intK n K=K n:=by cases n<;>simp[intK]
mutual
theorem zcz:∀ (v:AV) (K:AV→R),forceV v K=K v
 |.unk,_=>rfl
 |.bool b,K=>by cases b<;>rfl
 |.int k n,K=>zlz n fun n=>K (.int k n)
 |.nilp,_=>rfl
 |.ptr b off,K=>(zcq b fun b=>natK off fun off=>K (.ptr b off)).trans (zcq off _)
 |.rp cs,_=>rfl
 |.nils,_=>rfl
 |.sl b off n k,K=>(zcq b fun b=>natK off fun off=>natK n fun n=>natK k fun k=>K (.sl b off n k)).trans ((zcq off _).trans ((zcq n _).trans (zcq k _)))
 |.vs k es,_=>rfl
 |.nilmap,_=>rfl
 |.map b,K=>zcq b fun b=>K (.map b)
 |.nilfn,_=>rfl
 |.fn f a b,K=>(zda a fun a=>_).trans (zda b _)
 |.yield b,K=>zcq b fun b=>K (.yield b)
 |.nilif,_=>rfl
 |.iface t v,K=>zcz v fun v=>K (.iface t v)
 |.agg l,K=>zda l fun l=>K (.agg l)
 |.tup l,K=>zda l fun l=>K (.tup l)
 |.stamp b i,K=>(zcq b fun b=>natK i fun i=>K (.stamp b i)).trans (zcq i _)
theorem zda : ∀ (l : List AV) (K : List AV → R), (AV.rec_1 (motive_1 := fun _ => (AV → R) → R) (motive_2 := fun _ => (List AV → R) → R)
 (fun K=>K .unk) (fun b K=>boolK b fun b=>K (.bool b)) (fun k n K=>intK n fun n=>K (.int k n)) (fun K=>K .nilp)
 (fun b off K=>natK b fun b=>natK off fun off=>K (.ptr b off)) (fun cs _ K=>K (.rp cs)) (fun K=>K .nils)
 (fun b off n k K=>natK b fun b=>natK off fun off=>natK n fun n=>natK k fun k=>K (.sl b off n k)) (fun k es _ K=>K (.vs k es)) (fun K=>K .nilmap)
 (fun b K=>natK b fun b=>K (.map b)) (fun K=>K .nilfn) (fun f _ _ ih1 ih2 K=>ih1 fun a=>ih2 fun b=>K (.fn f a b)) (fun b K=>natK b fun b=>K (.yield b)) (fun K=>K .nilif)
 (fun t _ ih K=>ih fun v=>K (.iface t v)) (fun _ ih K=>ih fun l=>K (.agg l)) (fun _ ih K=>ih fun l=>K (.tup l)) (fun b i K=>natK b fun b=>natK i fun i=>K (.stamp b i))
 (fun K=>K []) (fun _ _ ihv ihl K=>ihv fun v=>ihl fun l=>K (v::l)) l) K=K l
 |[],_=>rfl
 |v::l,_K=>(zcz v fun _v=>_).trans (zda l _)
end
attribute [simp] zcz
@[simp] theorem zvb:∀ (l:List AV) (K:List AV→R),forceL l K=K l
  |[],_=>rfl
  |v::l,_K=>(zcz v fun _v=>_).trans (zvb l _)
@[simp] theorem zqn:∀ (l:List Nat) (K:List Nat→R),forceNs l K=K l
  |[],_=>rfl
  |v::l,K=>by
   show natK v (fun v=>forceNs l fun l=>K (v::l))=_
   rw[zcq,zqn]
@[simp] theorem zvc:∀ (l:List (AV × AV)) (K:List (AV × AV)→R),forceE l K=K l
  |[],_=>rfl
  |(a,b)::l,_K=>(zcz a fun _a=>_).trans ((zcz b fun _b=>_).trans (zvc l _))
@[simp] theorem ybe (s:LSt) (K:LSt→R):lstK s K=K s:=by cases s<;>rfl
@[simp] theorem ybc (p:Option AExit) (K:Option AExit→R):optK p K=K p:=by cases p<;>rfl
@[simp] theorem yay (r:ALoop) (K:ALoop→R):forceLp r K=K r:=by cases r;simp[forceLp]
@[simp] theorem yaz (b:AB) (K:AB→R):forceB b K=K b:=by cases b<;>simp[forceB]

@[simp] theorem yap:∀ (l m:List AV) (K:List AV→R),catL l m K=K (l++m)
  |[],_,_=>rfl
  |x::l,m,K=>yap l m fun l=>K (x::l)
@[simp] theorem yad:∀ l:List AV,lenL l=l.length
  |[]=>rfl
  |_x::l=>congrArg Nat.succ (yad l)
@[simp] theorem zyc:∀ l:List Nat,lenNs l=l.length
  |[]=>rfl
  |_x::l=>congrArg Nat.succ (zyc l)

theorem zvz (a b:Nat):Nat.ble a b=decide (a≤b):=by
 by_cases h:a≤b
 ·simp[h,Nat.ble_eq_true_of_le h]
 ·cases hx:Nat.ble a b with
  |true=>exact absurd (Nat.le_of_ble_eq_true hx) h
  |false=>simp[h]

theorem zwy (m n:Nat):subNN m n=(m:Int) - n:=by
 unfold subNN
 have h:Nat.sub n m=n - m:=rfl
 have h':Nat.sub m n=m - n:=rfl
 rw[h,h']
 cases hx:n - m with
 |zero=>show Int.ofNat (m - n)=_;simp;omega
 |succ d=>show Int.negSucc d=_;omega
theorem addI_eq (x y:Int):addI x y=x+y:=by
 cases x<;>cases y<;>simp only[addI,zwy]
 ·rfl
 ·simp;omega
 ·simp;omega
 ·rename_i a b;show Int.negSucc (a+b+1)=_;omega
theorem leI_eq (x y:Int):leI x y=decide (x≤y):=by
 cases x<;>cases y<;>simp only[leI,zvz]<;>simp<;>omega
theorem fits_wrap {k:IntKind}{n:Int}(h:fits k n=true):k.wrap n=n:=by
 cases k<;>cases n<;>simp only[fits,zvz,decide_eq_true_eq] at h <;>
  simp only [Int.ofNat_eq_natCast, IntKind.wrap, IntKind.bits, IntKind.signed, Bool.true_and, Bool.false_and, decide_eq_true_eq, show (2 : Int) ^ 8 = 256 from rfl, show (2 : Int) ^ 16 = 65536 from rfl, show (2 : Int) ^ 32 = 4294967296 from rfl, show (2 : Int) ^ 64 = 18446744073709551616 from rfl,
   show (2:Int) ^ (8 - 1)=128 from rfl,show (2:Int) ^ (16 - 1)=32768 from rfl,show (2:Int) ^ (32 - 1)=2147483648 from rfl,show (2:Int) ^ (64 - 1)=9223372036854775808 from rfl,Bool.false_eq_true,if_false] <;>
  (try split)<;>omega
@[simp] theorem yba (k:IntKind) (n:Int) (K:Int→R):wrapK k n K=K (k.wrap n):=by
  unfold wrapK
  rw[zlz]
  cases h:fits k n with
  |false=>exact zlz _ _
  |true=>rw[fits_wrap h]
@[simp] theorem ybd (b:Bool):notB b=!b:=by cases b<;>rfl
@[simp] theorem andB_eq (a b:Bool):andB a b=(a&&b):=by cases a<;>rfl
end Q
namespace Q
section
variable {C:Cfg} {N:Nat}
theorem okO_of {x:Opnd}(h:∀ t,t∈tmpsO x→t<N):okO N x=true:=by
 cases x with
 |tmp t=>exact Nat.ble_eq_true_of_le (h t (by simp[tmpsO]))
 |val v=>rfl
 |glob g=>rfl

theorem two {x y:Opnd}(h:∀ t,t∈tmpsO x++tmpsO y→t<N):okO N x=true∧okO N y=true:=
 ⟨okO_of fun t ht=>h t (List.mem_append_left _ ht),okO_of fun t ht=>h t (List.mem_append_right _ ht)⟩

end

section
variable {C:Cfg} {N:Nat} {call':CallQ} {call:CallF}

variable {pin n:Nat} {nod drawn:Bool} {o:AOp} {fl:List (Nat × List Nat)} {tr:T AV} {df:List ADef} {hp:T AB} {tc:List Nat} {K:OK}

inductive ER (N:Nat):R→Option (AExit × St)→Prop
 |no {o:Option (AExit × St)}:ER N .no o
 |norm {tr:T AV} {df:List ADef} {hp:T AB} {n:Nat} {tc:List Nat}:WT N tr→WH n hp→ER N (.norm tr df hp n tc) (some (.normal,St.mk (listT N tr) df (listH n hp) tc))
 |exit {i:Nat} {tr:T AV} {df:List ADef} {hp:T AB} {n:Nat} {tc:List Nat}:WT N tr→WH n hp→ER N (.exit i tr df hp n tc) (some (.exit i,St.mk (listT N tr) df (listH n hp) tc))
 |ret {tr:T AV} {df:List ADef} {hp:T AB} {n:Nat} {tc:List Nat}:WT N tr→WH n hp→ER N (.ret tr df hp n tc) (some (.ret,St.mk (listT N tr) df (listH n hp) tc))
 |pan {v:AV} {tr:T AV} {df:List ADef} {hp:T AB} {n:Nat} {tc:List Nat}:WT N tr→WH n hp→ER N (.pan v tr df hp n tc) (some (.panic v,St.mk (listT N tr) df (listH n hp) tc))

end
section
variable {C:Cfg} {N pin:Nat} {rd:Option Nat} {call':CallQ} {call:CallF}

end
section
variable {C:Cfg} {N pin:Nat} {rd:Option Nat} {call':CallQ} {call:CallF}

inductive FR:R→Option (CRes × St)→Prop
 |no {o:Option (CRes × St)}:FR .no o
 |ret {v:AV} {hp:T AB} {n:Nat} {st:St}:WH n hp→st.hp=listH n hp→FR (.cret v hp n st.tc) (some (.ret v,st))
 |pan {v:AV} {hp:T AB} {n:Nat} {st:St}:WH n hp→st.hp=listH n hp→FR (.cpan v hp n st.tc) (some (.pan v,st))

end
end Q
end Ev
end Go.Proofs.YtfpepkbflnendaaGreat
namespace Go.Proofs.YtfpepkbflnendaaGreat
open Go Go.RowKit
namespace Ev

theorem zwr {P:Program}{C:Cfg}(hT:TblOk P C){m f:Nat}{b:Bool}{H':List AB}{tc:List Nat}(h:Ev.call C m (.fn (.func f) [] []) [] []=some (.ret (.bool b),H',tc))(W:World)(hG:Globs C W (fun _=>False)):
  CallsIn Fence.wide 0 P f #[] W fun e W'=>e=.returned (.bool b)∧Below W.heap.size W W':=by
 have hok:=zmq hT m
 have hsim:Sim P W (fun _=>False) nomu []:={ live:=fun i B h=>(by cases h),dead:=fun i b h _=>(by cases h),out:=fun _ _=>rfl,inj:=fun i j B h _=>(by cases h),lt:=fun b h=>h.elim }
 obtain ⟨r,W1,h1,h2⟩:=hok.sound (tc0:=[]) h (Hp.start (P:=P) hsim) hG
  (rf:=.func (.func f) #[] #[]) (rargs:=#[]) (.fn (rf:=[]) (rc:=[]) (by intro l;simp) rfl (by intro i x r h;simp at h) rfl (by intro i x r h;simp at h)) VL.nil
 have e:(do let d ← Deferred.ofValue (.func (.func f) #[] #[]) #[];invoke d.target d.args:Sem Next).run P W=.ok (.enter f #[]) W:=by
  simp only[Deferred.ofValue,Sem.run_bind,Sem.run_pure,Result.andThen,invoke]
  exact hok.fn h _ _
 rw[e] at h1
 cases h1
 refine CallsIn.mono h2 ?_
 rintro en W' ⟨L',μ',c1,c2,_⟩
 cases en<;>simp only[CRel] at c1
 refine ⟨by rw[zbf c1],c2.env.1,c2.env.2.1,c2.env.2.2,c2.size,fun k hk=>c2.same k hk fun i _ hi=>by cases hi⟩

end Ev
end Go.Proofs.YtfpepkbflnendaaGreat
