/- Package road, gone through: the ways in which a part can be. -/
import Derived.Test.YtfpepkbflnendaaGreatLbPA
/- Hulls of numbers, as a reference finds them. -/
namespace Go.Proofs.YtfpepkbflnendaaGreat
open Go
namespace Clm
theorem isEmpty_iff' {α:Type}(l:List α):(!l.isEmpty)=true↔∃ x,x∈l:=by
 cases l with
 |nil=>simp
 |cons a l=>simp only[List.isEmpty_cons,Bool.not_false,true_iff];exact ⟨a,by simp⟩
def hullR (l:List Int):Sp:=l.foldl (fun s x=>s.either ⟨x,x⟩) ⟨l.headD 0,l.headD 0⟩
end Clm
namespace Rd
open Clm (Sp Hull spanL mem_span)
theorem mem_partsR (P:Pt)(p:Tr):p∈partsR P↔P.stiff.has p.stiff∧P.rise.has p.rise∧p.full=P.full:=by
 simp only[partsR,List.mem_flatMap,List.mem_map,mem_span]
 constructor
 ·rintro ⟨s,hs,k,hk,rfl⟩;exact ⟨hs,hk,rfl⟩
 ·rintro ⟨h1,h2,h3⟩;obtain ⟨a,b,c⟩:=p;exact ⟨a,h1,b,h2,by rw[show c=P.full from h3]⟩
theorem tr_fine {r:Road}(hr:Fine r){i:Nat}(hi:i<r.parts.length){p:Tr}(hp:p∈partsR (r.parts.getD i default)):1≤p.stiff∧p.stiff≤10∧0≤p.rise∧p.rise≤5∧p.full=(r.parts.getD i default).full∧p.full≤60:=by
 obtain ⟨h1,h2,h3⟩:=(mem_partsR _ _).1 hp
 have:=hr.part _ (part_mem hi)
 simp only[Sp.has] at h1 h2
 omega
theorem zmj {r:Road}(hr:Fine r)(m:Nat):∀ v∈r.events.take m,v.kind=1→0≤v.days:=fun v hv hk=>by
 rcases hr.event v (List.mem_of_mem_take hv) with h|h|h<;>omega
theorem inI_eq {r:Road}(hr:Fine r){i:Nat}(hi:i<r.parts.length){p:Tr}(hp:p∈partsR (r.parts.getD i default)){ls:List Int}(hl:ls∈allR r.events){h:Int}(hh:(r.parts.getD i default).height.has h)(m:Nat):inI r p h ls m=heightR r p h ls m:=by
 obtain ⟨a,_,b,_,e,_⟩:=tr_fine hr hi hp
 have:=hr.part _ (part_mem hi)
 simp only[Sp.has] at hh
 exact (zhp a b _ ls h (by omega) (zmj hr m) fun x hx=>(load_nn hr hl x hx).1).1
theorem zqb {r:Road}(hr:Fine r){i:Nat}(hi:i<r.parts.length){ls:List Int}(hl:ls∈allR r.events)(looks:Nat)(h:Int)(p:Tr):(h,p)∈statesR r i ls looks↔p∈partsR (r.parts.getD i default)∧(firstR r i p ls looks).has h:=by
 rw[zco]
 unfold statesR
 simp only[List.mem_flatMap,List.mem_filterMap,mem_span]
 have key:∀ (p:Tr) (h:Int),p∈partsR (r.parts.getD i default)→(r.parts.getD i default).height.has h→((r.events.zipIdx.all fun q=>!(bit looks q.2&&q.1.kind==2&&q.1.part==i) || (decide (q.1.shows.lo≤inI r p h ls q.2)&&decide (inI r p h ls q.2≤q.1.shows.hi)))=true↔right r i p ls looks h):=by
  intro p h hp hh
  rw[List.all_eq_true]
  unfold right
  refine forall_congr' fun q=>forall_congr' fun _=>?_
  rw[inI_eq hr hi hp hl hh]
  cases bit looks q.2
  ·simp
  ·by_cases hk:q.1.kind=2
   ·by_cases hpt:q.1.part=(i:Int)
    ·simp[hk,hpt]
    ·simp[hk,hpt]
   ·simp[hk]
 constructor
 ·rintro ⟨h',hh,p',hp,hif⟩
  split at hif
  ·rename_i hc
   cases hif
   exact ⟨hp,hh,(key _ _ hp hh).1 hc⟩
  ·cases hif
 ·rintro ⟨hp,hh,hr'⟩
  exact ⟨h,hh,p,hp,by rw[if_pos ((key _ _ hp hh).2 hr')]⟩
theorem mem_ways (r:Road)(i:Nat)(ls:List Int)(looks:Nat)(w:Way):w∈waysR r i ls looks↔w.part∈partsR (r.parts.getD i default)∧w.first=firstR r i w.part ls looks∧w.first.lo≤w.first.hi:=by
 unfold waysR
 rw[List.mem_filterMap]
 constructor
 ·rintro ⟨p,hp,h⟩
  split at h
  ·rename_i hs
   cases h
   exact ⟨hp,rfl,(Clm.some_iff _).1 hs⟩
  ·cases h
 ·rintro ⟨h1,h2,h3⟩
  obtain ⟨p,f⟩:=w
  simp only at h1 h2 h3
  subst h2
  exact ⟨p,h1,by rw[if_pos ((Clm.some_iff _).2 h3)]⟩
theorem zce {r:Road}(hr:Fine r){i:Nat}(hi:i<r.parts.length){ls:List Int}(hl:ls∈allR r.events)(looks:Nat)(h:Int)(p:Tr):(h,p)∈statesR r i ls looks↔∃ w∈waysR r i ls looks,w.part=p∧w.first.has h:=by
 rw[zqb hr hi hl]
 constructor
 ·rintro ⟨h1,h2⟩
  have h2':=h2
  simp only[Sp.has] at h2
  exact ⟨⟨p,firstR r i p ls looks⟩,(mem_ways _ _ _ _ _).2 ⟨h1,rfl,by simp only;omega⟩,rfl,h2'⟩
 ·rintro ⟨w,hw,rfl,h2⟩
  obtain ⟨a,b,_⟩:=(mem_ways _ _ _ _ _).1 hw
  exact ⟨a,b ▸ h2⟩
theorem zsm {r:Road}(hr:Fine r){i:Nat}(hi:i<r.parts.length){ls:List Int}(hl:ls∈allR r.events)(looks:Nat):(!(statesR r i ls looks).isEmpty)=!(waysR r i ls looks).isEmpty:=by
 rw[Bool.eq_iff_iff,Clm.isEmpty_iff',Clm.isEmpty_iff']
 constructor
 ·rintro ⟨⟨h,p⟩,hx⟩
  obtain ⟨w,hw,_⟩:=(zce hr hi hl looks h p).1 hx
  exact ⟨w,hw⟩
 ·rintro ⟨w,hw⟩
  obtain ⟨_,_,h3⟩:=(mem_ways _ _ _ _ _).1 hw
  exact ⟨(w.first.lo,w.part),(zce hr hi hl looks _ _).2 ⟨w,hw,rfl,Int.le_refl _,h3⟩⟩
def casesR (r:Road)(looks:Nat):List (List Int × List (List (Int × Tr))):=
 (allR r.events).filterMap fun ls=>if ((List.range r.parts.length).map fun i=>statesR r i ls looks).all (fun l=>!l.isEmpty) then some (ls,(List.range r.parts.length).map fun i=>statesR r i ls looks) else none
theorem cases_told {r:Road}(hr:Fine r)(looks:Nat):casesR r looks=(toldR r looks).map fun ls=>(ls,(List.range r.parts.length).map fun i=>statesR r i ls looks):=by
 unfold casesR toldR
 have key:∀ ls∈allR r.events,(((List.range r.parts.length).map fun i=>statesR r i ls looks).all fun l=>!l.isEmpty)=(List.range r.parts.length).all fun i=>!(waysR r i ls looks).isEmpty:=by
  intro ls hl
  rw[List.all_map,Bool.eq_iff_iff,List.all_eq_true,List.all_eq_true]
  refine forall_congr' fun i=>forall_congr' fun hi=>?_
  show (!(statesR r i ls looks).isEmpty)=true↔_
  rw[zsm hr (List.mem_range.1 hi) hl]
 generalize allR r.events=L at key
 induction L with
 |nil=>rfl
 |cons k L ih=>
  have ih':=ih fun k hk=>key k (by simp[hk])
  have hk:=key k (by simp)
  simp only[List.filterMap_cons,List.filter_cons,hk]
  by_cases h:((List.range r.parts.length).all fun i=>!(waysR r i k looks).isEmpty)=true
  ·rw[if_pos h,if_pos h,List.map_cons,ih']
  ·rw[if_neg h,if_neg h,ih']
theorem told_in {r:Road}{looks:Nat}{ls:List Int}(h:ls∈toldR r looks):ls∈allR r.events∧∀ i,i<r.parts.length→waysR r i ls looks≠[]:=by
 unfold toldR at h
 obtain ⟨h1,h2⟩:=List.mem_filter.1 h
 rw[List.all_eq_true] at h2
 refine ⟨h1,fun i hi e=>?_⟩
 have:=h2 i (List.mem_range.2 hi)
 rw[e] at this;cases this
def heightL (r:Road)(i many:Nat):List Int:=(casesR r (everyR r)).flatMap fun d=>(d.2.getD i []).map fun x=>inI r x.2 x.1 d.1 many
end Rd
end Go.Proofs.YtfpepkbflnendaaGreat
namespace Go.Proofs.YtfpepkbflnendaaGreat
namespace Clm
set_option maxRecDepth 100000
end Clm
end Go.Proofs.YtfpepkbflnendaaGreat
namespace Go.Proofs.YtfpepkbflnendaaGreat
open Go
namespace Clm
def setOf (p:Nat→Bool):Nat→Nat
 |0=>0
 |i+1=>if p i then setOf p i+2 ^ i else setOf p i
theorem setOf_lt (p:Nat→Bool):∀ n,setOf p n<2 ^ n
 |0=>by simp[setOf]
 |n+1=>by
  have:=setOf_lt p n
  unfold setOf
  rw[Nat.pow_succ]
  split<;>omega
theorem setOf_bit (p:Nat→Bool):∀ n i,(setOf p n).testBit i=(decide (i<n)&&p i)
 |0,i=>by simp[setOf]
 |n+1,i=>by
  have ih:=setOf_bit p n i
  have hl:=setOf_lt p n
  have hl1:=setOf_lt p (n+1)
  rcases Nat.lt_trichotomy i n with h|h|h
  ·have e:(setOf p (n+1)).testBit i=(setOf p n).testBit i:=by
    show (if p n then setOf p n+2 ^ n else setOf p n).testBit i=_
    split
    ·rw[Nat.add_comm,Nat.testBit_two_pow_add_gt h]
    ·rfl
   rw[e,ih]
   congr 1
   simp;omega
  ·subst h
   have h0:(setOf p i).testBit i=false:=Nat.testBit_lt_two_pow hl
   have e:(setOf p (i+1)).testBit i=p i:=by
    show (if p i then setOf p i+2 ^ i else setOf p i).testBit i=_
    split
    ·rename_i hp
     rw[Nat.add_comm,Nat.testBit_two_pow_add_eq,h0,hp];rfl
    ·rename_i hp
     rw[h0];simpa using hp
   rw[e];simp
  ·rw[Nat.testBit_lt_two_pow (Nat.lt_of_lt_of_le hl1 (Nat.pow_le_pow_right (by decide) (by omega)))]
   simp;omega
theorem every_bit (c:Cl)(i:Nat):(every c).testBit i=decide (i<c.events.length):=by
 unfold every;rw[Nat.testBit_two_pow_sub_one]
end Clm
namespace Rd
open Clm (Sp Hull spanL mem_span setOf)
theorem zus (r:Road)(w:Way){a b:Int}(h:a≤b)(ls:List Int)(days load:Int):leftR r w a ls days load≤leftR r w b ls days load:=by
 unfold leftR rested
 have:=zde w.part (r.events.take r.events.length) ls h
 unfold heightR
 generalize days * w.part.rise=x
 omega
end Rd
end Go.Proofs.YtfpepkbflnendaaGreat
namespace Go.Proofs.YtfpepkbflnendaaGreat
namespace Clm
end Clm
end Go.Proofs.YtfpepkbflnendaaGreat
namespace Go.Proofs.YtfpepkbflnendaaGreat
open Go
namespace Clm
end Clm
namespace Rd
open Clm (Sp Hull spanL mem_span setOf)
def isSpan (s:Sp)(low high wide:Int):Bool:=decide (low≤s.lo∧s.lo≤s.hi∧s.hi≤high∧s.hi - s.lo≤wide)
def okPart (p:Pt):Bool:=decide (0≤p.full∧p.full≤60)&&isSpan p.height 0 p.full 2&&isSpan p.stiff 1 10 2&&isSpan p.rise 0 5 2
def okEvt (r:Road)(v:Evt):Bool:=if v.kind=0 then isSpan v.load 0 60 2 else if v.kind=1 then decide (1≤v.days∧v.days≤10) else decide (v.kind=2)&&decide (0≤v.part∧v.part<r.parts.length)&&isSpan v.shows (-1000) 1000 2000
def doubt (v:Evt):Bool:=decide (v.kind=0∧v.load.lo<v.load.hi)
def valid (r:Road):Bool:=decide (1≤r.parts.length∧r.parts.length≤4)&&decide (r.events.length≤10)&&r.parts.all okPart&&r.events.all (okEvt r)&&decide ((r.events.filter doubt).length≤4)
theorem isSpan_iff (s:Sp)(a b w:Int):isSpan s a b w=true↔a≤s.lo∧s.lo≤s.hi∧s.hi≤b∧s.hi - s.lo≤w:=by simp[isSpan]
theorem zpy (p:Pt):okPart p=true↔(0≤p.full∧p.full≤60)∧(0≤p.height.lo∧p.height.lo≤p.height.hi∧p.height.hi≤p.full∧p.height.hi - p.height.lo≤2)∧(1≤p.stiff.lo∧p.stiff.lo≤p.stiff.hi∧p.stiff.hi≤10∧p.stiff.hi - p.stiff.lo≤2)∧(0≤p.rise.lo∧p.rise.lo≤p.rise.hi∧p.rise.hi≤5∧p.rise.hi - p.rise.lo≤2):=by
 simp only[okPart,Bool.and_eq_true,decide_eq_true_eq,isSpan_iff]
 exact ⟨fun h=>⟨h.1.1.1,h.1.1.2,h.1.2,h.2⟩,fun h=>⟨⟨⟨h.1,h.2.1⟩,h.2.2.1⟩,h.2.2.2⟩⟩
theorem ztw (r:Road)(v:Evt):okEvt r v=true↔(v.kind=0∧0≤v.load.lo∧v.load.lo≤v.load.hi∧v.load.hi≤60∧v.load.hi - v.load.lo≤2)∨(v.kind=1∧1≤v.days∧v.days≤10)∨(v.kind=2∧(0≤v.part∧v.part<r.parts.length)∧-1000≤v.shows.lo∧v.shows.lo≤v.shows.hi∧v.shows.hi≤1000):=by
 unfold okEvt
 by_cases h0:v.kind=0
 ·rw[if_pos h0,isSpan_iff]
  exact ⟨fun h=>.inl ⟨h0,h⟩,fun h=>by rcases h with h|h|h<;>omega⟩
 ·rw[if_neg h0]
  by_cases h1:v.kind=1
  ·rw[if_pos h1,decide_eq_true_eq]
   exact ⟨fun h=>.inr (.inl ⟨h1,h⟩),fun h=>by rcases h with h|h|h<;>omega⟩
  ·rw[if_neg h1]
   simp only[Bool.and_eq_true,decide_eq_true_eq,isSpan_iff]
   exact ⟨fun h=>.inr (.inr ⟨h.1.1,h.1.2,by omega⟩),fun h=>by rcases h with h|h|h<;>omega⟩
theorem valid_iff (r:Road):valid r=true↔Fine r:=by
 simp only[valid,Bool.and_eq_true,decide_eq_true_eq,List.all_eq_true,zpy,ztw]
 exact ⟨fun h=>⟨h.1.1.1.1,h.1.1.1.2,h.1.1.2,h.1.2,h.2⟩,fun h=>⟨⟨⟨⟨h.parts,h.events⟩,h.part⟩,h.event⟩,h.doubts⟩⟩
def errR (r:Road)(is:Bool):Int:=if valid r=false then 1 else if is=false then 2 else if canR r (everyR r)=false then 10 else 0
theorem errR_zero {r:Road}{b:Bool}(h:errR r b=0):b=true∧Fine r∧canR r (everyR r)=true:=by
 unfold errR at h
 cases hv:valid r with
 |false=>rw[hv] at h;simp at h
 |true=>
  rw[hv] at h
  cases b with
  |false=>simp at h
  |true=>
   refine ⟨rfl,(valid_iff r).1 hv,?_⟩
   cases hc:canR r (everyR r) with
   |true=>rfl
   |false=>rw[hc] at h;simp at h
def isPart (r:Road)(n:Int):Bool:=decide (0≤n∧n<r.parts.length)
def isLoad (n:Int):Bool:=decide (0≤n∧n≤60)
def weakN (r:Road):Nat→Nat
 |0=>0
 |n+1=>if (heightsR r (n+1) r.events.length).lo<(heightsR r (weakN r n) r.events.length).lo then n+1 else weakN r n
def weakR (r:Road):Nat:=weakN r (r.parts.length - 1)
end Rd
namespace Ev
namespace Ro
open K
set_option maxRecDepth 100000
set_option maxHeartbeats 4000000
def ptE (p:Rd.Pt):AV:=.agg [.int .i64 p.height.lo,.int .i64 p.height.hi,.int .i64 p.stiff.lo,.int .i64 p.stiff.hi,.int .i64 p.rise.lo,.int .i64 p.rise.hi,.int .i64 p.full]
def evE (v:Rd.Evt):AV:=.agg [.int .i64 v.kind,.int .i64 v.load.lo,.int .i64 v.load.hi,.int .i64 v.days,.int .i64 v.part,.int .i64 v.shows.lo,.int .i64 v.shows.hi]
def trE (p:Rd.Tr):AV:=.agg [.int .i64 p.stiff,.int .i64 p.rise,.int .i64 p.full]
def roadCs (r:Rd.Road):List AV:=[.vs 7 (r.parts.map ptE),.vs 7 (r.events.map evE)]
def ifA (v:Rd.Evt):AV:=if v.kind=0 then .iface 168 (.agg []) else if v.kind=1 then .iface 171 (.agg [.int .i64 v.days]) else .iface 169 (.agg [])
def arr10 (f:Nat→Int):List AV:=[.int .i64 (f 0),.int .i64 (f 1),.int .i64 (f 2),.int .i64 (f 3),.int .i64 (f 4),.int .i64 (f 5),.int .i64 (f 6),.int .i64 (f 7),.int .i64 (f 8),.int .i64 (f 9)]
theorem zbg (f:Nat→Int):(arr10 f).length=10:=rfl
theorem zcr (f:Nat→Int):(arr10 f).all AV.plain=true:=rfl
theorem zbs (f:Nat→Int):List.take 10 (arr10 f)=arr10 f:=rfl
theorem zwg (f:Nat→Int){i:Nat}(h:i<10):(arr10 f)[i]?=some (.int .i64 (f i)):=by
 match i,h with
 |0,_|1,_|2,_|3,_|4,_|5,_|6,_|7,_|8,_|9,_=>rfl
def upd (f:Nat→Int)(i:Nat)(s:Int):Nat→Int:=fun j=>if j=i then s else f j
theorem zle (f:Nat→Int){i:Nat}(h:i<10)(a:Int):List.take i (arr10 f)++.int .i64 a::List.drop (i+1) (arr10 f)=arr10 (upd f i a):=by
 match i,h with
 |0,_|1,_|2,_|3,_|4,_|5,_|6,_|7,_|8,_|9,_=>rfl
theorem zwh {f g:Nat→Int}(h:∀ i,i<10→f i=g i):arr10 f=arr10 g:=by
 unfold arr10
 rw[h 0 (by decide),h 1 (by decide),h 2 (by decide),h 3 (by decide),h 4 (by decide),h 5 (by decide),h 6 (by decide),h 7 (by decide),h 8 (by decide),h 9 (by decide)]
def fnOf (ls:List Int):Nat→Int:=fun i=>ls.getD i 0
def lsOf (n:Nat)(f:Nat→Int):List Int:=(List.range n).map f
theorem yaa {n:Nat}{ls:List Int}(h:ls.length=n):lsOf n (fnOf ls)=ls:=by
 subst h
 refine List.ext_getElem (by simp[lsOf]) fun i h1 h2=>?_
 simp[lsOf,fnOf,List.getElem?_eq_getElem h2]
theorem zxy {n:Nat}(hn:n≤10){f g:Nat→Int}(h:∀ i,i<10→f i=g i):lsOf n f=lsOf n g:=by
 unfold lsOf
 refine List.map_congr_left fun i hi=>h i ?_
 have:=List.mem_range.1 hi
 omega
structure Qn where
 f:Nat→Int
 num:Nat
 part:Rd.Tr
 looks:Nat
def qA (q:Qn):AV:=.agg [.int .i64 (q.f 0),.int .i64 (q.f 1),.int .i64 (q.f 2),.int .i64 (q.f 3),.int .i64 (q.f 4),.int .i64 (q.f 5),.int .i64 (q.f 6),.int .i64 (q.f 7),.int .i64 (q.f 8),.int .i64 (q.f 9),.int .i64 q.num,.int .i64 q.part.stiff,.int .i64 q.part.rise,.int .i64 q.part.full,.int .u64 q.looks]
def firstQ (r:Rd.Road)(q:Qn):Clm.Sp:=Rd.firstR r q.num q.part (lsOf r.events.length q.f) q.looks
def firstA (r:Rd.Road)(q:Qn):AV:=.agg [.int .i64 (firstQ r q).lo,.int .i64 (firstQ r q).hi]
def Memo (r:Rd.Road)(es:List (AV × AV)):Prop:=∀ p∈es,∃ q,p=(qA q,firstA r q)
abbrev keyK:EK:=.agg [true,true,true,true,true,true,true,true,true,true,true,true,true,true,true]
theorem aeq_q {r:Rd.Road}(hr:r.events.length≤10)(q s:Qn):∃ b,aeqK keyK (qA q) (qA s)=some b∧(b=true→firstQ r q=firstQ r s):=by
 obtain ⟨f,n,⟨st,ri,fu⟩,k⟩:=q
 obtain ⟨f',n',⟨st',ri',fu'⟩,k'⟩:=s
 refine ⟨_,rfl,?_⟩
 simp only[Bool.and_eq_true,beq_iff_eq,Bool.and_true,and_imp]
 intro h0 h1 h2 h3 h4 h5 h6 h7 h8 h9 g1 g2 g3 g4 g5
 have e1:n=n':=by omega
 have e2:k=k':=by omega
 subst e1 g2 g3 g4 e2
 have e3:lsOf r.events.length f=lsOf r.events.length f':=zxy hr fun i hi=>by
  match i,hi with
  |0,_=>exact h0
  |1,_=>exact h1
  |2,_=>exact h2
  |3,_=>exact h3
  |4,_=>exact h4
  |5,_=>exact h5
  |6,_=>exact h6
  |7,_=>exact h7
  |8,_=>exact h8
  |9,_=>exact h9
 unfold firstQ
 simp only[e3]
theorem zkg {r:Rd.Road}(hr:r.events.length≤10)(q:Qn):∀ {es:List (AV × AV)},Memo r es→findA keyK (qA q) es=some none∨findA keyK (qA q) es=some (some (firstA r q))
 |[],_=>.inl rfl
 |(k,v)::es,h=>by
   obtain ⟨s,hs⟩:=h (k,v) (by simp)
   cases hs
   obtain ⟨b,hb,hq⟩:=aeq_q hr q s
   simp only[findA,hb]
   cases b with
   |true=>unfold firstA;rw[hq rfl];exact .inr rfl
   |false=>exact zkg hr q fun p hp=>h p (by simp[hp])
theorem znk {r:Rd.Road}(hr:r.events.length≤10)(q:Qn):∀ {es:List (AV × AV)},Memo r es→∃ es',putA keyK (qA q) (firstA r q) es=some es'∧Memo r es'
 |[],_=>⟨_,rfl,fun p hp=>⟨q,by simpa using hp⟩⟩
 |(k,v)::es,h=>by
   obtain ⟨s,hs⟩:=h (k,v) (by simp)
   cases hs
   obtain ⟨b,hb,hq⟩:=aeq_q hr q s
   simp only[putA,hb]
   cases b with
   |true=>
    refine ⟨_,rfl,fun p hp=>?_⟩
    rcases List.mem_cons.1 hp with rfl|hp
    ·exact ⟨q,rfl⟩
    ·exact h p (by simp[hp])
   |false=>
    obtain ⟨es',h1,h2⟩:=znk hr q (es:=es) fun p hp=>h p (by simp[hp])
    rw[h1]
    refine ⟨_,rfl,fun p hp=>?_⟩
    rcases List.mem_cons.1 hp with rfl|hp
    ·exact ⟨s,rfl⟩
    ·exact h2 p hp
def evL (r:Rd.Road)(eb:Nat):AV:=if r.events=[] then .nils else .sl eb 0 r.events.length 1
structure Rx (r:Rd.Road) (xb mb eb:Nat) (H:List AB):Prop where
 ne:xb≠mb
 ne2:eb≠mb
 x:H[xb]?=some (.cells (roadCs r++[evL r eb,.map mb]))
 e:r.events≠[]→H[eb]?=some (.cells (r.events.map ifA))
 el:eb<H.length
 m:∃ es,H[mb]?=some (.map es)∧Memo r es
theorem Rx.kp {r:Rd.Road}{xb mb eb:Nat}{H G:List AB}{S:List Nat}(h:Rx r xb mb eb H)(k:Kp S H G)(h1:xb∉S)(h2:mb∉S)(h3:eb∉S):Rx r xb mb eb G:=by
 obtain ⟨es,m1,m2⟩:=h.m
 exact ⟨h.ne,h.ne2,k.at h.x h1,fun hn=>k.at (h.e hn) h3,Nat.lt_of_lt_of_le h.el k.len,es,k.at m1 h2,m2⟩
theorem Rx.app {r:Rd.Road}{xb mb eb:Nat}{H:List AB}(h:Rx r xb mb eb H)(K:List AB):Rx r xb mb eb (H++K):=h.kp (Kp.app (S:=[]) H K) (by simp) (by simp) (by simp)
theorem Rx.xl {r:Rd.Road}{xb mb eb:Nat}{H:List AB}(h:Rx r xb mb eb H):xb<H.length:=get_lt h.x
theorem Rx.ml {r:Rd.Road}{xb mb eb:Nat}{H:List AB}(h:Rx r xb mb eb H):mb<H.length:=by obtain ⟨es,m1,_⟩:=h.m;exact get_lt m1
theorem Rx.same {r:Rd.Road}{xb mb eb:Nat}{H G:List AB}(h:Rx r xb mb eb H)(k:∀ j,j=xb∨j=mb∨j=eb→G[j]?=H[j]?):Rx r xb mb eb G:=by
 obtain ⟨es,m1,m2⟩:=h.m
 refine ⟨h.ne,h.ne2,(k _ (.inl rfl)).trans h.x,fun hn=>(k _ (.inr (.inr rfl))).trans (h.e hn),?_,es,(k _ (.inr (.inl rfl))).trans m1,m2⟩
 have hl:=h.el
 have:=k eb (.inr (.inr rfl))
 rw[List.getElem?_eq_getElem hl] at this
 exact get_lt this
structure TrOk (p:Rd.Tr):Prop where
 s1:1≤p.stiff
 s2:p.stiff≤10
 r1:0≤p.rise
 r2:p.rise≤5
 f1:0≤p.full
 f2:p.full≤60
end Ro
end Ev
namespace Rd
open Clm (Sp Hull spanL mem_span setOf)
def Lds (es:List Evt)(ls:List Int):Prop:=ls.length=es.length∧∀ (i:Nat) (v:Evt),es[i]?=some v→(v.kind=0→v.load.has (ls.getD i 0))∧(v.kind≠0→ls.getD i 0=0)
theorem zut:∀ (es:List Evt) (ls:List Int),Lds es ls→ls∈allR es
 |[],[],_=>by simp[allR]
 |[],x::ls,h=>by have:=h.1;simp at this
 |e::es,[],h=>by have:=h.1;simp at this
 |e::es,x::ls,h=>by
  have h0:=h.2 0 e rfl
  have ht:=zut es ls ⟨by simpa using h.1,fun i v hv=>h.2 (i+1) v hv⟩
  unfold allR
  by_cases hk:e.kind=0
  ·rw[if_pos hk,List.mem_flatMap]
   exact ⟨x,(mem_span _ _).2 (h0.1 hk),List.mem_map.2 ⟨ls,ht,rfl⟩⟩
  ·rw[if_neg hk]
   have:x=0:=h0.2 hk
   subst this
   exact List.mem_map.2 ⟨ls,ht,rfl⟩
theorem zzy (es:List Evt)(ls:List Int):ls∈allR es↔Lds es ls:=by
 refine ⟨fun h=>?_,zut es ls⟩
 obtain ⟨h1,h2⟩:=mem_allR es ls h
 refine ⟨h1,fun i v hv=>?_⟩
 obtain ⟨hi,rfl⟩:=List.getElem?_eq_some_iff.1 hv
 exact h2 i hi
theorem getD_l {l:List Int}{i:Nat}(h:i<l.length)(m:List Int):(l++m).getD i 0=l.getD i 0:=by
 rw[List.getD_eq_getElem?_getD,List.getD_eq_getElem?_getD,List.getElem?_append_left h]
theorem getD_r (l:List Int)(k:Int):(l++[k]).getD l.length 0=k:=by simp[List.getD_eq_getElem?_getD]
def rightE (r:Road)(i:Nat)(p:Tr)(ls:List Int)(h:Int):Prop:=∀ (j:Nat) (v:Evt),r.events[j]?=some v→v.kind=2→v.part=i→v.shows.lo≤heightR r p h ls j∧heightR r p h ls j≤v.shows.hi
theorem every_bit (r:Road){j:Nat}(h:j<r.events.length):bit (everyR r) j=true:=by
 unfold bit everyR
 rw[Nat.testBit_two_pow_sub_one]
 exact decide_eq_true h
theorem right_iff (r:Road)(i:Nat)(p:Tr)(ls:List Int)(h:Int):right r i p ls (everyR r) h↔rightE r i p ls h:=by
 unfold right rightE
 constructor
 ·intro H j v hv hk hp
  exact H (v,j) (List.mem_zipIdx_iff_getElem?.2 hv) (every_bit r (List.getElem?_eq_some_iff.1 hv).1) hk hp
 ·rintro H ⟨v,j⟩ hq _ hk hp
  exact H j v (List.mem_zipIdx_iff_getElem?.1 hq) hk hp
def Tru (r:Road)(ls:List Int)(i:Nat)(p:Tr)(h:Int):Prop:=p∈partsR (r.parts.getD i default)∧(r.parts.getD i default).height.has h∧rightE r i p ls h
def All (r:Road)(ls:List Int):Prop:=Lds r.events ls∧∀ i,i<r.parts.length→∃ p h,Tru r ls i p h
theorem ygq {r:Road}{ls:List Int}{i:Nat}{w:Way}(hw:w∈waysR r i ls (everyR r)){h:Int}(hh:w.first.has h):Tru r ls i w.part h:=by
 obtain ⟨h1,h2,_⟩:=(mem_ways _ _ _ _ _).1 hw
 rw[h2,zco,right_iff] at hh
 exact ⟨h1,hh⟩
theorem ygs {r:Road}{ls:List Int}{i:Nat}{p:Tr}{h:Int}(ht:Tru r ls i p h):∃ w∈waysR r i ls (everyR r),w.part=p∧w.first.has h:=by
 have hf:(firstR r i p ls (everyR r)).has h:=(zco _ _ _ _ _ _).2 ⟨ht.2.1,(right_iff _ _ _ _ _).2 ht.2.2⟩
 exact ⟨⟨p,firstR r i p ls (everyR r)⟩,(mem_ways _ _ _ _ _).2 ⟨ht.1,rfl,Int.le_trans hf.1 hf.2⟩,rfl,hf⟩
theorem way_lo {r:Road}{ls:List Int}{i:Nat}{w:Way}(hw:w∈waysR r i ls (everyR r)):w.first.has w.first.lo∧w.first.has w.first.hi:=by
 obtain ⟨_,_,h3⟩:=(mem_ways _ _ _ _ _).1 hw
 exact ⟨⟨Int.le_refl _,h3⟩,⟨h3,Int.le_refl _⟩⟩
theorem ycb (r:Road)(ls:List Int):ls∈toldR r (everyR r)↔All r ls:=by
 unfold toldR All
 rw[List.mem_filter,zzy,List.all_eq_true]
 refine and_congr_right fun _=>⟨fun h i hi=>?_,fun h i hi=>?_⟩
 ·have:=h i (List.mem_range.2 hi)
  cases hw:waysR r i ls (everyR r) with
  |nil=>rw[hw] at this;cases this
  |cons w l=>
   have hm:w∈waysR r i ls (everyR r):=by rw[hw];simp
   exact ⟨_,_,ygq hm (way_lo hm).1⟩
 ·obtain ⟨p,h',ht⟩:=h i (List.mem_range.1 hi)
  obtain ⟨w,hw,_⟩:=ygs ht
  cases he:waysR r i ls (everyR r) with
  |nil=>rw[he] at hw;cases hw
  |cons a b=>rfl
theorem yif (r:Road):canR r (everyR r)=true↔∃ ls,All r ls:=by
 unfold canR
 constructor
 ·intro h
  cases ht:toldR r (everyR r) with
  |nil=>rw[ht] at h;cases h
  |cons a b=>exact ⟨a,(ycb r a).1 (by rw[ht];simp)⟩
 ·rintro ⟨ls,h⟩
  have:=(ycb r ls).2 h
  cases ht:toldR r (everyR r) with
  |nil=>rw[ht] at this;cases this
  |cons a b=>rfl
def endR (r:Road)(p:Tr)(h:Int)(ls:List Int):Int:=heightR r p h ls r.events.length
theorem sure_iff (r:Road)(d load:Int):sureR r d load=true↔∀ ls,All r ls→∀ i,i<r.parts.length→∀ p h,Tru r ls i p h→0≤rested p (endR r p h ls) d - sunk p load:=by
 unfold sureR
 simp only[List.all_eq_true,decide_eq_true_eq,List.mem_range]
 constructor
 ·intro H ls hl i hi p h ht
  obtain ⟨w,hw,rfl,hh⟩:=ygs ht
  have:=H ls ((ycb r ls).2 hl) i hi w hw
  exact Int.le_trans this (zus r w hh.1 ls d load)
 ·intro H ls hl i hi w hw
  exact H ls ((ycb r ls).1 hl) i hi w.part w.first.lo (ygq hw (way_lo hw).1)
def addR (r:Road)(v:Evt):Road:=⟨r.parts,r.events++[v]⟩
theorem yek (p:Tr):∀ (es:List Evt) (ls m:List Int) (h:Int),es.length≤ls.length→after p es (ls++m) h=after p es ls h
 |[],_,_,_,_=>rfl
 |v::es,[],m,h,hl=>by simp at hl
 |v::es,x::ls,m,h,hl=>by
  show after p es (ls++m) (stepE v p h x)=after p es ls (stepE v p h x)
  exact yek p es ls m _ (by simpa using hl)
theorem ycg (p:Tr)(v:Evt)(k:Int):∀ (es:List Evt) (ls:List Int) (h:Int),ls.length=es.length→after p (es++[v]) (ls++[k]) h=stepE v p (after p es ls h) k
 |[],[],h,_=>rfl
 |[],x::ls,h,hl=>by simp at hl
 |e::es,[],h,hl=>by simp at hl
 |e::es,x::ls,h,hl=>by
  show after p (es++[v]) (ls++[k]) (stepE e p h x)=stepE v p (after p es ls (stepE e p h x)) k
  exact ycg p v k es ls _ (by simpa using hl)
theorem ybj {r:Road}{v:Evt}{l:List Int}(hl:l.length=r.events.length)(k:Int)(p:Tr)(h:Int){j:Nat}(hj:j≤r.events.length):heightR (addR r v) p h (l++[k]) j=heightR r p h l j:=by
 unfold heightR addR
 simp only
 rw[List.take_append_of_le_length hj]
 exact yek p _ _ _ _ (by simp;omega)
theorem height_new {r:Road}{v:Evt}{l:List Int}(hl:l.length=r.events.length)(k:Int)(p:Tr)(h:Int):heightR (addR r v) p h (l++[k]) (r.events.length+1)=stepE v p (endR r p h l) k:=by
 unfold heightR addR endR heightR
 simp only
 rw[List.take_of_length_le (by simp),List.take_of_length_le (Nat.le_refl _)]
 exact ycg p v k _ _ _ hl
theorem yhv (es:List Evt)(v:Evt)(ls:List Int):Lds (es++[v]) ls↔∃ l k,ls=l++[k]∧Lds es l∧(v.kind=0→v.load.has k)∧(v.kind≠0→k=0):=by
 constructor
 ·rintro ⟨h1,h2⟩
  have hne:ls≠[]:=fun e=>by rw[e] at h1;simp at h1
  obtain ⟨l,k,rfl⟩:∃ l k,ls=l++[k]:=⟨_,_,(List.dropLast_concat_getLast hne).symm⟩
  have hl:l.length=es.length:=by simpa using h1
  refine ⟨l,k,rfl,⟨hl,fun i w hw=>?_⟩,?_⟩
  ·have hi:=(List.getElem?_eq_some_iff.1 hw).1
   have:=h2 i w (by rw[List.getElem?_append_left hi];exact hw)
   rwa [getD_l (by omega)] at this
  ·have:=h2 es.length v (by simp)
   rwa [← hl,getD_r] at this
 ·rintro ⟨l,k,rfl,⟨h1,h2⟩,h3⟩
  refine ⟨by simp[h1],fun i w hw=>?_⟩
  by_cases hi:i<es.length
  ·rw[List.getElem?_append_left hi] at hw
   rw[getD_l (by omega)]
   exact h2 i w hw
  ·rw[List.getElem?_append_right (by omega)] at hw
   have h0:i - es.length=0:=by
    have:=(List.getElem?_eq_some_iff.1 hw).1
    simp at this;omega
   rw[h0] at hw
   cases hw
   have:i=l.length:=by omega
   subst this
   rw[getD_r]
   exact h3
theorem tru_add {r:Road}{v:Evt}{l:List Int}(hl:l.length=r.events.length)(k:Int)(i:Nat)(p:Tr)(h:Int):Tru (addR r v) (l++[k]) i p h↔Tru r l i p h∧(v.kind=2→v.part=i→v.shows.lo≤endR r p h l∧endR r p h l≤v.shows.hi):=by
 unfold Tru
 have e:rightE (addR r v) i p (l++[k]) h↔rightE r i p l h∧(v.kind=2→v.part=i→v.shows.lo≤endR r p h l∧endR r p h l≤v.shows.hi):=by
  constructor
  ·intro H
   refine ⟨fun j w hw hk hp=>?_,fun hk hp=>?_⟩
   ·have hj:=(List.getElem?_eq_some_iff.1 hw).1
    have:=H j w (by show (r.events++[v])[j]?=_;rw[List.getElem?_append_left hj];exact hw) hk hp
    rwa [ybj hl k p h (by omega)] at this
   ·have:=H r.events.length v (by show (r.events++[v])[_]?=_;simp) hk hp
    rwa [ybj hl k p h (Nat.le_refl _)] at this
  ·rintro ⟨H,H2⟩ j w hw hk hp
   have hw':(r.events++[v])[j]?=some w:=hw
   by_cases hj:j<r.events.length
   ·rw[List.getElem?_append_left hj] at hw'
    rw[ybj hl k p h (by omega)]
    exact H j w hw' hk hp
   ·have hj2:=(List.getElem?_eq_some_iff.1 hw').1
    have:j=r.events.length:=by simp at hj2;omega
    subst this
    rw[ybj hl k p h (Nat.le_refl _)]
    simp at hw'
    subst hw'
    exact H2 hk hp
 rw[e]
 show p∈partsR (r.parts.getD i default)∧(r.parts.getD i default).height.has h∧_↔_
 exact ⟨fun ⟨a,b,c,d⟩=>⟨⟨a,b,c⟩,d⟩,fun ⟨⟨a,b,c⟩,d⟩=>⟨a,b,c,d⟩⟩
theorem all_add {r:Road}{v:Evt}(hv:v.kind≠2)(ls:List Int):All (addR r v) ls↔∃ l k,ls=l++[k]∧All r l∧(v.kind=0→v.load.has k)∧(v.kind≠0→k=0):=by
 unfold All
 constructor
 ·rintro ⟨h1,h2⟩
  obtain ⟨l,k,rfl,h3,h4⟩:=(yhv r.events v ls).1 h1
  refine ⟨l,k,rfl,⟨h3,fun i hi=>?_⟩,h4⟩
  obtain ⟨p,h,ht⟩:=h2 i hi
  exact ⟨p,h,((tru_add h3.1 k i p h).1 ht).1⟩
 ·rintro ⟨l,k,rfl,⟨h3,h5⟩,h4⟩
  refine ⟨(yhv r.events v _).2 ⟨l,k,rfl,h3,h4⟩,fun i hi=>?_⟩
  obtain ⟨p,h,ht⟩:=h5 i hi
  exact ⟨p,h,(tru_add h3.1 k i p h).2 ⟨ht,fun h=>absurd h hv⟩⟩
theorem tru_part {r:Road}(hr:Fine r){ls:List Int}{i:Nat}(hi:i<r.parts.length){p:Tr}{h:Int}(ht:Tru r ls i p h):1≤p.stiff∧p.stiff≤10∧0≤p.rise∧p.rise≤5∧0≤h∧h≤p.full∧p.full≤60:=by
 obtain ⟨a,b,c,d,e,f⟩:=tr_fine hr hi ht.1
 have hp:=hr.part _ (part_mem hi)
 have hh:=ht.2.1
 simp only[Sp.has] at hh
 omega
theorem lds_nn {r:Road}(hr:Fine r){ls:List Int}(hl:Lds r.events ls):∀ x∈ls,0≤x∧x≤60:=load_nn hr ((zzy _ _).2 hl)
theorem height_full {r:Road}(hr:Fine r){ls:List Int}{i:Nat}(hi:i<r.parts.length){p:Tr}{h:Int}(hl:Lds r.events ls)(ht:Tru r ls i p h)(m:Nat):heightR r p h ls m≤p.full:=by
 obtain ⟨a,b,c,d,e,f,g⟩:=tru_part hr hi ht
 exact (zhp a c _ _ _ f (zmj hr m) fun x hx=>(lds_nn hr hl x hx).1).2
theorem sunk_mono {p:Tr}(h1:1≤p.stiff){a b:Int}(h:a≤b):sunk p a≤sunk p b:=Int.ediv_le_ediv (by omega) (by omega)
def restE (n:Int):Evt:=⟨1,⟨0,0⟩,n,0,⟨0,0⟩⟩
def passE (a b:Int):Evt:=⟨0,⟨a,b⟩,0,0,⟨0,0⟩⟩
theorem fine_add {r:Road}(hr:Fine r)(h9:r.events.length≤9){v:Evt}(hv:(v.kind=0∧0≤v.load.lo∧v.load.lo≤v.load.hi∧v.load.hi≤60∧v.load.hi - v.load.lo≤2)∨(v.kind=1∧1≤v.days∧v.days≤10)∨(v.kind=2∧(0≤v.part∧v.part<r.parts.length)∧-1000≤v.shows.lo∧v.shows.lo≤v.shows.hi∧v.shows.hi≤1000))(hd:¬ (v.kind=0∧v.load.lo<v.load.hi)):Fine (addR r v) where
 parts:=hr.parts
 events:=by simp[addR];omega
 part:=hr.part
 event w hw:=by
  rcases List.mem_append.1 hw with hw|hw
  ·exact hr.event w hw
  ·simp only[List.mem_singleton] at hw
   subst hw
   exact hv
 doubts:=by
  have:=hr.doubts
  simp only[addR,List.filter_append,List.length_append,List.filter_cons,decide_eq_false hd,List.filter_nil]
  simpa using this
theorem can_eq {r s:Road}(h:(∃ ls,All r ls)↔∃ ls,All s ls):canR r (everyR r)=canR s (everyR s):=by
 rw[Bool.eq_iff_iff,yif,yif];exact h
end Rd
namespace Ld
open Rd (Evt restE passE)
structure Cart where
 load:Int
 due:Int
deriving Inhabited
structure Lo where
 road:Rd.Road
 days:Int
 carts:List Cart
def isDay (l:Lo)(n:Int):Bool:=decide (0≤n∧n<l.days)
def isCart (l:Lo)(n:Int):Bool:=decide (0≤n∧n<l.carts.length)
def okCart (l:Lo)(c:Cart):Bool:=decide (0≤c.load∧c.load≤60)&&isDay l c.due
def valid (l:Lo):Bool:=decide (Rd.errR l.road true=0)&&decide (l.road.events.length≤2)&&decide (1≤l.days∧l.days≤4)&&decide (l.carts.length≤4)&&l.carts.all (okCart l)
def isPlan (l:Lo)(p:List Int):Bool:=decide (p.length=l.carts.length)&&p.all fun d=>decide (d=-1) || isDay l d
def onDay (p:List Int)(d:Nat):List Nat:=(List.range p.length).filter fun i=>p.getD i 0==(d:Int)
def order (p:List Int):List Nat:=(List.range 4).flatMap (onDay p)
def aheadE:Int→List (Int × Int)→Int→List Evt
 |now,[],day=>if now<day then [restE (day - now)] else []
 |now,x::l,day=>(if now<x.1 then [restE (x.1 - now)] else [])++passE x.2 x.2::aheadE (if now<x.1 then x.1 else now) l day
def gone (l:Lo)(w:List Int):List (Int × Int):=(order (w.take l.carts.length)).map fun i=>(w.getD i 0,(l.carts.getD i default).load)
def aheadR (l:Lo)(w:List Int)(day:Int):Rd.Road:=⟨l.road.parts,l.road.events++aheadE 0 (gone l w) day⟩
def bearT (l:Lo)(w:List Int)(load day:Int):Bool:=decide (Rd.errR (aheadR l w day) (Rd.isLoad load)=0)&&decide (Rd.bearsR (aheadR l w day) load=2)
def brokenL (l:Lo)(p:List Int):List Nat→List Int→Option (Nat × Nat)
 |[],_=>none
 |i::L,w=>if (l.carts.getD i default).due<p.getD i 0 then some (i,1) else if bearT l w (l.carts.getD i default).load (p.getD i 0)=false then some (i,2) else brokenL l p L (w.set i (p.getD i 0))
def stay5:List Int:=[-1,-1,-1,-1,-1]
def brokenR (l:Lo)(p:List Int):Option (Nat × Nat):=brokenL l p (order p) stay5
def right (l:Lo)(p:List Int):Bool:=(brokenR l p).isNone
def daysOf (l:Lo)(c:Cart):List Int:=-1::(List.range (min l.days (c.due+1)).toNat).map Int.ofNat
def plansL (l:Lo):List Cart→List (List Int)
 |[]=>[[]]
 |c::cs=>(daysOf l c).flatMap fun d=>(plansL l cs).map (d::·)
def rights (l:Lo):List (List Int):=(plansL l l.carts).filter (right l)
def mostL (f:List Int→Int):List (List Int)→Option (List Int × Int)→Option (List Int × Int)
 |[],b=>b
 |p::L,none=>mostL f L (some (p,f p))
 |p::L,some b=>mostL f L (if b.2<f p then some (p,f p) else some b)
def carries (l:Lo)(p:List Int):Int:=((List.range l.carts.length).map fun i=>if p.getD i 0=-1 then 0 else (l.carts.getD i default).load).foldl (·+·) 0
def planR (l:Lo):List Int × Int:=(mostL (carries l) (rights l) none).getD ([],0)
def soon (l:Lo)(p:List Int):Int:=if p.any (·==-1) then -1 else l.days - max 0 (p.foldl max 0)
def allR (l:Lo):Option Int:=let n:=((mostL (soon l) (rights l) none).getD ([],0)).2;if 0≤n then some (l.days - n) else none
def only (l:Lo)(cart:Nat)(day:Int):List Int:=(List.replicate l.carts.length (-1)).set cart day
def aloneR (l:Lo)(cart:Nat):Option Nat:=(List.range l.days.toNat).find? fun d=>right l (only l cart d)
def goneR (l:Lo)(is:List Int→Bool):Nat:=Clm.setOf (fun i=>(rights l).any fun p=>is p&&!(p.getD i 0==-1)) l.carts.length
def goesB (p:List Int)(i:Nat):Bool:=!(p.getD i 0==-1)
def neverR (l:Lo):Nat:=Clm.setOf (fun i=>!(rights l).any fun p=>goesB p i) l.carts.length
def withR (l:Lo)(cart:Nat):Nat:=Clm.setOf (fun i=>i != cart&&(rights l).any fun p=>goesB p cart&&goesB p i) l.carts.length
def moreL (l:Lo)(n:Int):Lo:=⟨l.road,l.days,l.carts++[⟨n,l.days - 1⟩]⟩
def moreR (l:Lo)(p:List Int)(day:Int):Option Nat:=((List.range 61).map (60 - ·)).find? fun n=>right (moreL l n) (p++[day])
end Ld
namespace Ev
namespace Ro
open K
attribute [local simp] ev1 wantG spineK spine float xnew xval xeff zab zae zau zah zai addFl cellsOf pickC alive slLen slFt binI maxA maxK minA minK aeqK aeqS AV.cells spA zad fillA setAt bitsI nat_nn zav AV.plain apart
set_option maxRecDepth 100000
set_option maxHeartbeats 4000000
def cE (c:Ld.Cart):AV:=.agg [.int .i64 c.load,.int .i64 c.due]
theorem gS {P Q:Prop}(q:Q)(h:Hidden Q→P:=by intro q0;(repeat (first|(with_reducible apply zak;(focus ((conv=>lhs;simp[*,cE,Nat.testBit_eq_decide_div_mod_eq])<;>exact rfl));simp only[addFl])|((with_reducible first|apply zaw|apply zay|apply zas|apply zaq|apply zao|apply zax|apply zar|apply zaz|(apply zap;· simp[*,zab])|(apply zam;· simp[*,zab]));try simp only[Then,Ops,OutB,reduceIte])|simp only[Nat.reduceEqDiff,reduceIte,OutB,Then]));exact q0.out):P:=h ⟨q⟩
theorem gT {P Q:Prop}(q:Q)(h:Hidden Q→P:=by intro q0;(repeat (first|((with_reducible apply zak);(focus ((with_reducible apply zba);(focus rfl);(focus rfl);(focus ((conv=>lhs;simp[*,List.getElem?_append_right,List.set_append_right,List.getElem?_cons_zero,List.getElem?_append_left,List.set_append_left,-getElem?_pos,cE,↓zbe,↓zbr,Nat.testBit_eq_decide_div_mod_eq])<;>exact rfl));(focus rfl);(focus rfl)));simp only[addFl])|(with_reducible apply zak;(focus ((conv=>lhs;simp[*,List.getElem?_append_right,List.set_append_right,List.getElem?_cons_zero,List.getElem?_append_left,List.set_append_left,-getElem?_pos,cE,↓zbe,↓zbr,Nat.testBit_eq_decide_div_mod_eq])<;>exact rfl));simp only[addFl])|((with_reducible first|apply zaw|apply zay|apply zas|apply zaq|apply zao|apply zax|apply zar|apply zaz|(apply zap;· simp[*,zab])|(apply zam;· simp[*,zab]));try simp only[Then,Ops,OutB,reduceIte])|simp only[Nat.reduceEqDiff,reduceIte,OutB,Then]));exact q0.out):P:=h ⟨q⟩
theorem gU {P Q:Prop}(q:Q)(h:Hidden Q→P:=by intro q0;(repeat (first|((with_reducible apply zak);(focus ((with_reducible apply zba);(focus rfl);(focus rfl);(focus ((conv=>lhs;simp[*,List.getElem?_append_right,List.set_append_right,List.getElem?_cons_zero,List.getElem?_append_left,List.set_append_left,-getElem?_pos,List.lookup,↓zbe,↓zbr,Nat.testBit_eq_decide_div_mod_eq])<;>exact rfl));(focus rfl);(focus rfl)));simp only[addFl])|(with_reducible apply zak;(focus ((conv=>lhs;simp[*,List.getElem?_append_right,List.set_append_right,List.getElem?_cons_zero,List.getElem?_append_left,List.set_append_left,-getElem?_pos,List.lookup,↓zbe,↓zbr,Nat.testBit_eq_decide_div_mod_eq])<;>exact rfl));simp only[addFl])|((with_reducible first|apply zaw|apply zay|apply zas|apply zaq|apply zao|apply zax|apply zar|apply zaz|(apply zap;· simp[*,zab])|(apply zam;· simp[*,zab]));try simp only[Then,Ops,OutB,reduceIte])|simp only[Nat.reduceEqDiff,reduceIte,OutB,Then]));exact q0.out):P:=h ⟨q⟩
theorem gV {P Q:Prop}(q:Q)(h:Hidden Q→P:=by intro q0;(repeat (first|((with_reducible apply zak);(focus ((with_reducible apply zba);(focus rfl);(focus rfl);(focus ((conv=>lhs;simp[*,List.getElem?_append_right,List.set_append_right,List.getElem?_cons_zero,List.getElem?_append_left,List.set_append_left,-getElem?_pos,↓zbe,↓zbr,Nat.testBit_eq_decide_div_mod_eq])<;>exact rfl));(focus rfl);(focus rfl)));simp only[addFl])|(with_reducible apply zak;(focus ((conv=>lhs;simp[*,List.getElem?_append_right,List.set_append_right,List.getElem?_cons_zero,List.getElem?_append_left,List.set_append_left,-getElem?_pos,↓zbe,↓zbr,Nat.testBit_eq_decide_div_mod_eq])<;>exact rfl));simp only[addFl])|((with_reducible first|apply zaw|apply zay|apply zas|apply zaq|apply zao|apply zax|apply zar|apply zaz|(apply zap;· simp[*,zab])|(apply zam;· simp[*,zab]));try simp only[Then,Ops,OutB,reduceIte])|simp only[Nat.reduceEqDiff,reduceIte,OutB,Then]));exact q0.out):P:=h ⟨q⟩
theorem gW {P Q:Prop}(q:Q)(h:Hidden Q→P:=by intro q0;(repeat (first|((with_reducible apply zak);(focus ((with_reducible apply zba);(focus rfl);(focus rfl);(focus ((conv=>lhs;simp[*,List.getElem?_append_right,List.set_append_right,List.getElem?_cons_zero,List.getElem?_append_left,List.set_append_left,-getElem?_pos,keyOK,↓zbe,↓zbr,Nat.testBit_eq_decide_div_mod_eq])<;>exact rfl));(focus rfl);(focus rfl)));simp only[addFl])|(with_reducible apply zak;(focus ((conv=>lhs;simp[*,List.getElem?_append_right,List.set_append_right,List.getElem?_cons_zero,List.getElem?_append_left,List.set_append_left,-getElem?_pos,keyOK,↓zbe,↓zbr,Nat.testBit_eq_decide_div_mod_eq])<;>exact rfl));simp only[addFl])|((with_reducible first|apply zaw|apply zay|apply zas|apply zaq|apply zao|apply zax|apply zar|apply zaz|(apply zap;· simp[*,zab])|(apply zam;· simp[*,zab]));try simp only[Then,Ops,OutB,reduceIte])|simp only[Nat.reduceEqDiff,reduceIte,OutB,Then]));exact q0.out):P:=h ⟨q⟩
theorem gX {P Q:Prop}(q:Q)(h:Hidden Q→P:=by intro q0;(repeat (first|(with_reducible apply zak;(focus ((conv=>lhs;simp[*,cE,Nat.testBit_eq_decide_div_mod_eq])<;>exact rfl));simp only[addFl])|(with_reducible apply zgq;(focus ((conv=>lhs;simp[*,cE,Nat.testBit_eq_decide_div_mod_eq])<;>exact rfl));(try simp only[Ops,Then,OutB]);(try dsimp only))|((with_reducible first|apply zaw|apply zay|apply zas|apply zaq|apply zao|apply zax|apply zar|apply zaz|(apply zap;· simp[*,zab])|(apply zam;· simp[*,zab]));try simp only[Then,Ops,OutB,reduceIte])|simp only[Nat.reduceEqDiff,reduceIte,OutB,Then]));exact q0.out):P:=h ⟨q⟩
theorem gY {P Q:Prop}(q:Q)(h:Hidden Q→P:=by intro q0;(repeat (first|(with_reducible apply zak;(focus ((conv=>lhs;simp[*,cE,↓zbe,Nat.testBit_eq_decide_div_mod_eq])<;>exact rfl));simp only[addFl])|((with_reducible first|apply zaw|apply zay|apply zas|apply zaq|apply zao|apply zax|apply zar|apply zaz|(apply zap;· simp[*,zab])|(apply zam;· simp[*,zab]));try simp only[Then,Ops,OutB,reduceIte])|simp only[Nat.reduceEqDiff,reduceIte,OutB,Then]));exact q0.out):P:=h ⟨q⟩
theorem gZ {P Q:Prop}(q:Q)(h:Hidden Q→P:=by intro q0;(repeat (first|(with_reducible apply zak;(focus ((conv=>lhs;simp[*,↓zbe,↓zbr,Nat.testBit_eq_decide_div_mod_eq])<;>exact rfl));simp only[addFl])|((with_reducible first|apply zaw|apply zay|apply zas|apply zaq|apply zao|apply zax|apply zar|apply zaz|(apply zap;· simp[*,zab])|(apply zam;· simp[*,zab]));try simp only[Then,Ops,OutB,reduceIte])|simp only[Nat.reduceEqDiff,reduceIte,OutB,Then]));exact q0.out):P:=h ⟨q⟩
def loadCs (l:Ld.Lo):List AV:=[.vs 7 (l.road.parts.map ptE),.vs 7 (l.road.events.map evE),.int .i64 l.days,.vs 2 (l.carts.map cE)]
structure Tp where
 f:Nat→Int
 load:Int
 day:Int
def Tp.w (t:Tp):List Int:=[t.f 0,t.f 1,t.f 2,t.f 3,t.f 4]
def tpA (t:Tp):AV:=.agg [.int .i64 (t.f 0),.int .i64 (t.f 1),.int .i64 (t.f 2),.int .i64 (t.f 3),.int .i64 (t.f 4),.int .i64 t.load,.int .i64 t.day]
abbrev keyT:EK:=.agg [true,true,true,true,true,true,true]
def bearA (l:Ld.Lo)(t:Tp):AV:=.bool (Ld.bearT l t.w t.load t.day)
def MemoL (l:Ld.Lo)(es:List (AV × AV)):Prop:=∀ p∈es,∃ t:Tp,p=(tpA t,bearA l t)
theorem aeq_t (l:Ld.Lo)(t t':Tp):∃ b,aeqK keyT (tpA t) (tpA t')=some b∧(b=true→bearA l t=bearA l t'):=by
 obtain ⟨f,a,d⟩:=t
 obtain ⟨f',a',d'⟩:=t'
 refine ⟨_,rfl,?_⟩
 simp only[Bool.and_eq_true,beq_iff_eq,Bool.and_true,and_imp]
 intro h0 h1 h2 h3 h4 h5 h6
 subst h5 h6
 unfold bearA Tp.w
 simp only[h0,h1,h2,h3,h4]
theorem ych (l:Ld.Lo)(t:Tp):∀ {es:List (AV × AV)},MemoL l es→findA keyT (tpA t) es=some none∨findA keyT (tpA t) es=some (some (bearA l t))
 |[],_=>.inl rfl
 |(k,v)::es,h=>by
   obtain ⟨s,hs⟩:=h (k,v) (by simp)
   cases hs
   obtain ⟨b,hb,hq⟩:=aeq_t l t s
   simp only[findA,hb]
   cases b with
   |true=>rw[hq rfl];exact .inr rfl
   |false=>exact ych l t fun p hp=>h p (by simp[hp])
theorem ycz (l:Ld.Lo)(t:Tp):∀ {es:List (AV × AV)},MemoL l es→∃ es',putA keyT (tpA t) (bearA l t) es=some es'∧MemoL l es'
 |[],_=>⟨_,rfl,fun p hp=>⟨t,by simpa using hp⟩⟩
 |(k,v)::es,h=>by
   obtain ⟨s,hs⟩:=h (k,v) (by simp)
   cases hs
   obtain ⟨b,hb,hq⟩:=aeq_t l t s
   simp only[putA,hb]
   cases b with
   |true=>
    refine ⟨_,rfl,fun p hp=>?_⟩
    rcases List.mem_cons.1 hp with rfl|hp
    ·exact ⟨t,rfl⟩
    ·exact h p (by simp[hp])
   |false=>
    obtain ⟨es',h1,h2⟩:=ycz l t (es:=es) fun p hp=>h p (by simp[hp])
    rw[h1]
    refine ⟨_,rfl,fun p hp=>?_⟩
    rcases List.mem_cons.1 hp with rfl|hp
    ·exact ⟨s,rfl⟩
    ·exact h2 p hp
structure Qx (l:Ld.Lo) (qb mb:Nat) (H:List AB):Prop where
 ne:qb≠mb
 q:H[qb]?=some (.cells (loadCs l++[.map mb]))
 m:∃ es,H[mb]?=some (.map es)∧MemoL l es
theorem Qx.kp {l:Ld.Lo}{qb mb:Nat}{H G:List AB}{S:List Nat}(h:Qx l qb mb H)(k:Kp S H G)(h1:qb∉S)(h2:mb∉S):Qx l qb mb G:=by
 obtain ⟨es,m1,m2⟩:=h.m
 exact ⟨h.ne,k.at h.q h1,es,k.at m1 h2,m2⟩
theorem Qx.app {l:Ld.Lo}{qb mb:Nat}{H:List AB}(h:Qx l qb mb H)(K:List AB):Qx l qb mb (H++K):=h.kp (Kp.app (S:=[]) H K) (by simp) (by simp)
theorem Qx.ql {l:Ld.Lo}{qb mb:Nat}{H:List AB}(h:Qx l qb mb H):qb<H.length:=get_lt h.q
theorem Qx.ml {l:Ld.Lo}{qb mb:Nat}{H:List AB}(h:Qx l qb mb H):mb<H.length:=by obtain ⟨es,m1,_⟩:=h.m;exact get_lt m1
theorem Qx.call {l:Ld.Lo}{qb mb:Nat}{H G:List AB}{tc:List Nat}(h:Qx l qb mb H)(k:Kp tc H G)(htc:∀ j∈tc,j=mb)(hm:∃ es,G[mb]?=some (.map es)∧MemoL l es):Qx l qb mb G:=
 ⟨h.ne,k.at h.q fun hj=>h.ne (htc _ hj),hm⟩
def caC (c:Ld.Cart):List AV:=[.int .i64 c.load,.int .i64 c.due]
def caCs (cs:List Ld.Cart):List AV:=cs.flatMap caC
structure Qy (l:Ld.Lo) (cb qb mb:Nat) (H:List AB):Prop where
 ne:qb≠mb
 nc:cb≠mb
 cl:cb<H.length
 q:∃ cv,H[qb]?=some (.cells [.vs 7 (l.road.parts.map ptE),.vs 7 (l.road.events.map evE),.int .i64 l.days,cv,.map mb])∧(cv=.vs 2 (l.carts.map cE)∨(cv=.sl cb 0 l.carts.length 2∧H[cb]?=some (.cells (caCs l.carts))))
 m:∃ es,H[mb]?=some (.map es)∧MemoL l es
theorem Qx.y {l:Ld.Lo}{qb mb:Nat}{H:List AB}(h:Qx l qb mb H):Qy l qb qb mb H:=⟨h.ne,h.ne,h.ql,⟨_,h.q,.inl rfl⟩,h.m⟩
theorem Qy.kp {l:Ld.Lo}{cb qb mb:Nat}{H G:List AB}{S:List Nat}(h:Qy l cb qb mb H)(k:Kp S H G)(h1:qb∉S)(h2:mb∉S)(h3:cb∉S):Qy l cb qb mb G:=by
 obtain ⟨es,m1,m2⟩:=h.m
 obtain ⟨cv,q1,q2⟩:=h.q
 exact ⟨h.ne,h.nc,Nat.lt_of_lt_of_le h.cl k.len,⟨cv,k.at q1 h1,q2.imp id fun g=>⟨g.1,k.at g.2 h3⟩⟩,es,k.at m1 h2,m2⟩
theorem Qy.app {l:Ld.Lo}{cb qb mb:Nat}{H:List AB}(h:Qy l cb qb mb H)(K:List AB):Qy l cb qb mb (H++K):=h.kp (Kp.app (S:=[]) H K) (by simp) (by simp) (by simp)
theorem Qy.ql {l:Ld.Lo}{cb qb mb:Nat}{H:List AB}(h:Qy l cb qb mb H):qb<H.length:=by obtain ⟨cv,q1,_⟩:=h.q;exact get_lt q1
theorem Qy.ml {l:Ld.Lo}{cb qb mb:Nat}{H:List AB}(h:Qy l cb qb mb H):mb<H.length:=by obtain ⟨es,m1,_⟩:=h.m;exact get_lt m1
theorem Qy.call {l:Ld.Lo}{cb qb mb:Nat}{H G:List AB}{tc:List Nat}(h:Qy l cb qb mb H)(k:Kp tc H G)(htc:∀ j∈tc,j=mb)(hm:∃ es,G[mb]?=some (.map es)∧MemoL l es):Qy l cb qb mb G:=by
 obtain ⟨cv,q1,q2⟩:=h.q
 exact ⟨h.ne,h.nc,Nat.lt_of_lt_of_le h.cl k.len,⟨cv,k.at q1 fun hj=>h.ne (htc _ hj),q2.imp id fun g=>⟨g.1,k.at g.2 fun hj=>h.nc (htc _ hj)⟩⟩,hm⟩
theorem Qy.sm {l:Ld.Lo}{cb qb mb:Nat}{G G':List AB}(h:Qy l cb qb mb G)(h1:G'[qb]?=G[qb]?)(h2:G'[mb]?=G[mb]?)(h3:G'[cb]?=G[cb]?):Qy l cb qb mb G':=by
 obtain ⟨cv,q1,q2⟩:=h.q
 obtain ⟨es,e1,e2⟩:=h.m
 refine ⟨h.ne,h.nc,?_,⟨cv,h1.trans q1,q2.imp id fun g=>⟨g.1,h3.trans g.2⟩⟩,es,h2.trans e1,e2⟩
 have:=h.cl
 rw[List.getElem?_eq_getElem this] at h3
 exact get_lt h3
theorem Qx.sm {l:Ld.Lo}{qb mb:Nat}{G G':List AB}(h:Qx l qb mb G)(h1:G'[qb]?=G[qb]?)(h2:G'[mb]?=G[mb]?):Qx l qb mb G':=⟨h.ne,h1.trans h.q,by obtain ⟨es,e1,e2⟩:=h.m;exact ⟨es,h2.trans e1,e2⟩⟩
theorem ybm:∀ cs:List Ld.Cart,(caCs cs).length=2 * cs.length
 |[]=>rfl
 |c::cs=>by
  have:=ybm cs
  show (caC c++caCs cs).length=_
  rw[List.length_append,this]
  show 2+_=2 * (cs.length+1)
  omega
theorem ycr:∀ {cs:List Ld.Cart} {i:Nat} {c:Ld.Cart},cs[i]?=some c→(caCs cs)[i * 2]?=some (.int .i64 c.load)∧(caCs cs)[i * 2+1]?=some (.int .i64 c.due)
 |[],i,c,h=>by simp at h
 |d::cs,0,c,h=>by
  simp only[List.getElem?_cons_zero,Option.some.injEq] at h
  subst h
  exact ⟨rfl,rfl⟩
 |d::cs,i+1,c,h=>by
  rw[List.getElem?_cons_succ] at h
  have ih:=ycr h
  have e:caCs (d::cs)=.int .i64 d.load::.int .i64 d.due::caCs cs:=rfl
  rw[e,show (i+1) * 2=i * 2+1+1 by omega,show i * 2+1+1+1=(i * 2+1)+1+1 by omega]
  simp only[List.getElem?_cons_succ]
  exact ih
def WithinC (call:CallF):Prop:=∀ (H:List AB) (n a b:Int),call (.fn (.func 133) [] []) [.int .i64 n,.int .i64 a,.int .i64 b] H=some (.ret (.bool (decide (a≤n∧n≤b))),H,[])
theorem zon (C:Cfg)(call:CallF)(H:List AB)(n a b:Int):Wb C call H af133 [.int .i64 n,.int .i64 a,.int .i64 b] (fun v _hp tc=>v=.bool (decide (a≤n∧n≤b))∧tc=[]):=by
 unfold Wb Wa af133 Zq Zm Zo Zh Za Zt Zy
 simp only[zipI]
 by_cases h:a≤n
 ·(refine gA ?_)
  exact zac (.inl rfl) rfl (by simp) (by simp only[resL,resOf,zaa];simp[*,resV]) ⟨rfl,rfl⟩
 ·(refine gA ?_)
  exact zac (.inl rfl) rfl (by simp) (by simp only[resL,resOf,zaa];simp[*,resV]) ⟨rfl,rfl⟩
theorem zqh (C:Cfg)(call:CallF)(hW:WithinC call)(H:List AB)(n:Int):Wb C call H af101 [.int .i64 n] (fun v _hp tc=>v=.bool (Rd.isLoad n)∧tc=[]):=by
 have hW':=fun H=>hW H n 0 60
 clear hW
 unfold Rd.isLoad
 unfold Wb Wa af101 Zq Zm Zo Zc Zt Zn Zy
 simp only[zipI]
 refine gA ?_
 exact zac (.inl rfl) rfl (by simp) (by simp only[resL,resOf,zaa];simp[*,resV]) ⟨rfl,rfl⟩
theorem zro (C:Cfg)(call:CallF)(H:List AB)(v:AV):Wb C call H af146 [v] (fun v _hp tc=>v=.bool true∧tc=[]):=by
 unfold Wb Wa af146 Zq Zo Zy Zw
 simp only[zipI]
 refine gA ?_
 exact zac (.inl rfl) rfl (by simp) (by simp only[resL,resOf,zaa];simp[*,resV]) ⟨rfl,rfl⟩
theorem zqg (C:Cfg)(call:CallF)(hW:WithinC call)(r:Rd.Road)(hc:r.parts.length≤1000)(H:List AB)(xb:Nat)(w z:AV)(hy:H[xb]?=some (.cells (roadCs r++[w,z])))(n:Int):Wb C call H af134 [.ptr xb 0,.int .i64 n]
  (fun v _hp tc=>v=.bool (Rd.isPart r n)∧tc=[]):=by
 obtain ⟨y0,y1,y2,y3,y4,y5⟩:=bk' hy
 have hw:IntKind.i64.wrap ((r.parts.length:Int) - 1)=(r.parts.length:Int) - 1:=zaf (by omega) (by omega)
 have e:Rd.isPart r n=decide (0≤n∧n≤(r.parts.length:Int) - 1):=by unfold Rd.isPart;congr 1;simp;omega
 have hW':=fun H=>hW H n 0 ((r.parts.length:Int) - 1)
 rw[e]
 clear hW e hc
 unfold Wb Wa af134 Zq Zm Zl Zo Zc Zb Zf Zt Zn Zy
 simp only[zipI,roadCs,List.cons_append,List.nil_append] at *
 refine gA ?_
 exact zac (.inl rfl) rfl (by simp) (by simp only[resL,resOf,zaa];simp[*,resV]) ⟨rfl,rfl⟩
theorem zvl (C:Cfg)(call:CallF)(r:Rd.Road)(hn:r.events.length≤40)(H:List AB)(xb:Nat)(w z:AV)(hy:H[xb]?=some (.cells (roadCs r++[w,z]))):Wb C call H af136 [.ptr xb 0]
  (fun v _hp tc=>v=.int .u64 ((Rd.everyR r:Nat):Int)∧tc=[]):=by
 obtain ⟨y0,y1,y2,y3,y4,y5⟩:=bk' hy
 obtain ⟨s1,s2,s3⟩:=zzm (d:=r.events.length) (by omega)
 have hp:0<2 ^ r.events.length:=Nat.pow_pos (by decide)
 have hp2:2 ^ r.events.length≤2 ^ 40:=Nat.pow_le_pow_right (by decide) hn
 have hev:((Rd.everyR r:Nat):Int)=((2 ^ r.events.length:Nat):Int) - 1:=by unfold Rd.everyR;omega
 rw[hev]
 unfold Wb Wa af136 Zq Zm Zl Zo Zf Zt
 simp only[zipI,roadCs,List.cons_append,List.nil_append] at *
 generalize 2 ^ r.events.length=P at *
 have hw:IntKind.u64.wrap ((P:Int) - 1)=(P:Int) - 1:=zet (by omega) (by omega)
 clear hev hp hp2
 refine gA ?_
 exact zac (.inl rfl) rfl (by simp) (by simp only[resL,resOf,zaa];simp[*,resV]) ⟨rfl,rfl⟩
theorem zqf (C:Cfg)(call:CallF)(H:List AB)(s:Clm.Sp)(a b w:Int)(h0:-1000000≤a)(hb:b≤1000000):Wb C call H af131 [spA s,.int .i64 a,.int .i64 b,.int .i64 w] (fun v _hp tc=>v=.bool (Rd.isSpan s a b w)∧tc=[]):=by
 by_cases h1:a≤s.lo
 ·by_cases h2:s.lo≤s.hi
  ·by_cases h3:s.hi≤b
   ·have w1:IntKind.i64.wrap (s.hi - s.lo)=s.hi - s.lo:=zaf (by omega) (by omega)
    clear h0 hb
    have e:Rd.isSpan s a b w=decide (s.hi - s.lo≤w):=by simp[Rd.isSpan,h1,h2,h3]
    rw[e];clear e
    unfold Wb Wa af131 Zq Zm Zl Zo Zh Za Zf Zt Zy
    simp only[zipI,spA]
    refine gA ?_
    exact zac (.inl rfl) rfl (by simp) (by simp only[resL,resOf,zaa];simp[*,resV]) ⟨rfl,rfl⟩
   ·clear h0 hb
    have e:Rd.isSpan s a b w=false:=by simp[Rd.isSpan,h3]
    rw[e];clear e
    unfold Wb Wa af131 Zq Zm Zl Zo Zh Za Zf Zt Zy
    simp only[zipI,spA]
    refine gA ?_
    exact zac (.inl rfl) rfl (by simp) (by simp only[resL,resOf,zaa];simp[*,resV]) ⟨rfl,rfl⟩
  ·clear h0 hb
   have e:Rd.isSpan s a b w=false:=by simp[Rd.isSpan,h2]
   rw[e];clear e
   unfold Wb Wa af131 Zq Zm Zl Zo Zh Za Zf Zt Zy
   simp only[zipI,spA]
   refine gA ?_
   exact zac (.inl rfl) rfl (by simp) (by simp only[resL,resOf,zaa];simp[*,resV]) ⟨rfl,rfl⟩
 ·clear h0 hb
  have e:Rd.isSpan s a b w=false:=by simp[Rd.isSpan,h1]
  rw[e];clear e
  unfold Wb Wa af131 Zq Zm Zl Zo Zh Za Zf Zt Zy
  simp only[zipI,spA]
  refine gA ?_
  exact zac (.inl rfl) rfl (by simp) (by simp only[resL,resOf,zaa];simp[*,resV]) ⟨rfl,rfl⟩
theorem zua (C:Cfg)(call:CallF)(H:List AB)(e:Int):Wa C call H af132 [.bool true,.int .i64 e] (Fin C H.length af132 fun x _ tc=>x=.ret (.tup [])∧tc=[]):=by
 unfold Wa af132 Zq Zu Zm Zo Zs Zt Zi
 simp only[zipI]
 refine gA ?_
 exact zmg (v:=.tup []) (.inr rfl) rfl (Nat.le_refl _) rfl ⟨rfl,rfl⟩
theorem zub (C:Cfg)(call:CallF)(H:List AB)(e:Int):Wa C call H af132 [.bool false,.int .i64 e] (Fin C H.length af132 fun x _ tc=>x=.pan (.iface 161 (.agg [.int .i64 e]))∧tc=[]):=by
 unfold Wa af132 Zq Zu Zm Zo Zs Zt Zi
 simp only[zipI]
 refine gD ?_
 exact zbw rfl (Nat.le_refl _) ⟨rfl,rfl⟩
theorem zww (C:Cfg)(call:CallF)(H:List AB)(p:Rd.Tr)(hp:TrOk p)(l:Int)(h0:0≤l)(h1:l≤1000):Wb C call H af165 [trE p,.int .i64 l]
  (fun v _hp tc=>v=.int .i64 (Rd.sunk p l)∧tc=[]):=by
 obtain ⟨s1,s2,r1,r2,f1,f2⟩:=hp
 obtain ⟨s,k,f⟩:=p
 simp only at *
 have w1:IntKind.i64.wrap (l+s)=l+s:=zaf (by omega) (by omega)
 have w2:IntKind.i64.wrap (l+s - 1)=l+s - 1:=zaf (by omega) (by omega)
 have e1:(l+s - 1).tdiv s=(l+s - 1) / s:=Int.tdiv_eq_ediv_of_nonneg (by omega)
 have hd:0≤(l+s - 1) / s:=Int.ediv_nonneg (by omega) (by omega)
 have hd2:(l+s - 1) / s≤l+s - 1:=Int.ediv_le_self _ (by omega)
 have w3:IntKind.i64.wrap ((l+s - 1) / s)=(l+s - 1) / s:=zaf (by omega) (by omega)
 have hs0:¬ s=0:=by omega
 have hs1:(s==0)=false:=by simp[hs0]
 have e:Rd.sunk ⟨s,k,f⟩ l=(l+s - 1) / s:=rfl
 rw[e];clear e
 generalize (l+s - 1) / s=d at *
 clear hd hd2 s1 s2 r1 r2 f1 f2 h0 h1
 unfold Wb Wa af165 Zq Zm Zl Zo Za Zb Zf Zt Zn
 simp only[zipI,trE]
 refine gA ?_
 exact zac (.inl rfl) rfl (by simp) (by simp only[resL,resOf,zaa];simp[*,resV]) ⟨rfl,rfl⟩
theorem zpi (C:Cfg)(call:CallF)(H:List AB)(p:Rd.Tr)(hp:TrOk p)(h d:Int)(h0:-1000000≤h)(h1:h≤1000000)(d0:0≤d)(d1:d≤1000):Wb C call H af163 [trE p,.int .i64 h,.int .i64 d]
  (fun v _hp tc=>v=.int .i64 (Rd.rested p h d)∧tc=[]):=by
 obtain ⟨s1,s2,r1,r2,f1,f2⟩:=hp
 obtain ⟨s,k,f⟩:=p
 simp only at *
 have m0:0≤d * k:=Int.mul_nonneg d0 r1
 have m1:d * k≤1000 * 5:=Int.mul_le_mul d1 r2 r1 (by omega)
 have e:Rd.rested ⟨s,k,f⟩ h d=min f (h+d * k):=rfl
 rw[e];clear e
 generalize hm:d * k=m at *
 have w1:IntKind.i64.wrap m=m:=zaf (by omega) (by omega)
 have w2:IntKind.i64.wrap (h+m)=h+m:=zaf (by omega) (by omega)
 clear m0 m1 s1 s2 r1 r2 f1 f2 h0 h1 d0 d1
 unfold Wb Wa af163 Zq Zm Zl Zo Za Zf Zt Zn
 simp only[zipI,trE]
 refine gA ?_
 exact zac (.inl rfl) rfl (by simp) (by simp only[resL,resOf,zaa];simp[*,resV]) ⟨rfl,rfl⟩
theorem zuq (C:Cfg)(call:CallF)(H:List AB)(p:Rd.Tr)(h l:Int):Wb C call H af198 [.agg [],trE p,.int .i64 h,.int .i64 l]
  (fun v _hp tc=>v=.int .i64 h∧tc=[]):=by
 unfold Wb Wa af198 Zq Zm Zo Zt Zn
 simp only[zipI,trE]
 refine gA ?_
 exact zac (.inl rfl) rfl (by simp) (by simp only[resL,resOf,zaa];simp[*,resV]) ⟨rfl,rfl⟩
def SunkC (call:CallF):Prop:=∀ (H:List AB) (p:Rd.Tr),TrOk p→∀ l:Int,0≤l→l≤1000→call (.fn (.func 165) [] []) [.agg [.int .i64 p.stiff,.int .i64 p.rise,.int .i64 p.full],.int .i64 l] H=some (.ret (.int .i64 (Rd.sunk p l)),H,[])
theorem ztr (C:Cfg)(call:CallF)(hS:SunkC call)(H:List AB)(p:Rd.Tr)(hp:TrOk p)(h l:Int)(h0:-1000000≤h)(h1:h≤1000000)(l0:0≤l)(l1:l≤1000):Wb C call H af197 [.agg [],trE p,.int .i64 h,.int .i64 l]
  (fun v _hp tc=>v=.int .i64 (h - Rd.sunk p l)∧tc=[]):=by
 have hs:=fun H=>hS H p hp l l0 l1
 have b0:=Rd.sunk_nn hp.s1 l0
 have b1:Rd.sunk p l≤l+p.stiff - 1:=Int.ediv_le_self _ (by have:=hp.s1;omega)
 have hs2:=hp.s2
 clear hS hp
 generalize Rd.sunk p l=d at *
 have w1:IntKind.i64.wrap (h - d)=h - d:=zaf (by omega) (by omega)
 clear b0 b1 hs2 h0 h1 l0 l1
 unfold Wb Wa af197 Zq Zm Zo Zc Za Zg Zt Zn
 simp only[zipI,trE]
 refine gA ?_
 exact zac (.inl rfl) rfl (by simp) (by simp only[resL,resOf,zaa];simp[*,resV]) ⟨rfl,rfl⟩
end Ro
end Ev
namespace Rd
theorem zil (p:Tr)(v:Evt):∀ (l:List Evt) (ls:List Int) (h:Int),after p (l++[v]) ls h=stepE v p (after p l ls h) (ls.getD l.length 0)
 |[],ls,h=>by simp[after,List.headD_eq_head?_getD,List.head?_eq_getElem?]
 |w::l,ls,h=>by
  rw[List.cons_append,after,after,zil p v l]
  congr 1
  simp[List.getElem?_tail]
theorem heightR_succ (r:Road)(p:Tr)(h:Int)(ls:List Int){i:Nat}{v:Evt}(hv:r.events[i]?=some v):heightR r p h ls (i+1)=stepE v p (heightR r p h ls i) (ls.getD i 0):=by
 have hi:=(List.getElem?_eq_some_iff.1 hv).1
 unfold heightR
 rw[List.take_add_one,hv]
 simp only[Option.toList_some]
 rw[zil,List.length_take,Nat.min_eq_left (by omega)]
theorem heightR_bd {r:Road}(hr:Fine r){p:Tr}(h1:1≤p.stiff)(h2:p.stiff≤10)(h3:0≤p.rise)(h5:0≤p.full)(h6:p.full≤60){ls:List Int}(hl:∀ i,0≤ls.getD i 0∧ls.getD i 0≤60){h:Int}(b1:-1000≤h)(b2:h≤1000):∀ i,i≤r.events.length→-1000 - 100 * (i:Int)≤heightR r p h ls i∧heightR r p h ls i≤1000
 |0,_=>by simp[heightR,after];omega
 |i+1,hi=>by
  obtain ⟨k1,k2⟩:=heightR_bd hr h1 h2 h3 h5 h6 hl b1 b2 i (by omega)
  have hv:r.events[i]?=some r.events[i]:=List.getElem?_eq_getElem hi
  rw[heightR_succ r p h ls hv]
  obtain ⟨l1,l2⟩:=hl i
  generalize heightR r p h ls i=a at *
  generalize ls.getD i 0=x at *
  have he:=hr.event _ (List.getElem_mem hi)
  generalize r.events[i]=v at *
  unfold stepE rested
  split
  ·have c1:=sunk_nn h1 l1
   have c2:sunk p x≤x+p.stiff - 1:=Int.ediv_le_self _ (by omega)
   omega
  ·split
   ·rename_i h0 hk
    have d1:0≤v.days:=by rcases he with h|h|h<;>omega
    have:=Int.mul_nonneg d1 h3
    generalize v.days * p.rise=y at *
    omega
   ·omega
end Rd
namespace Ev
namespace Ro
open K
attribute [local simp] ev1 wantG spineK spine float xnew xval xeff zab zae zau zah zai addFl cellsOf pickC alive slLen slFt binI maxA maxK minA minK aeqK aeqS AV.cells spA zad fillA setAt bitsI nat_nn zav AV.plain apart
set_option maxRecDepth 100000
set_option maxHeartbeats 4000000
structure AftC (call:CallF):Prop where
 look:∀ (H:List AB) (p:Rd.Tr) (h l:Int),call (.fn (.func 198) [] []) [.agg [],.agg [.int .i64 p.stiff,.int .i64 p.rise,.int .i64 p.full],.int .i64 h,.int .i64 l] H=some (.ret (.int .i64 h),H,[])
 pass:∀ (H:List AB) (p:Rd.Tr),TrOk p→∀ h l:Int,-1000000≤h→h≤1000000→0≤l→l≤1000→call (.fn (.func 197) [] []) [.agg [],.agg [.int .i64 p.stiff,.int .i64 p.rise,.int .i64 p.full],.int .i64 h,.int .i64 l] H=some (.ret (.int .i64 (h - Rd.sunk p l)),H,[])
 rest:∀ (H:List AB) (d:Int) (p:Rd.Tr),TrOk p→∀ h l:Int,-1000000≤h→h≤1000000→0≤d→d≤1000→call (.fn (.func 199) [] []) [.agg [.int .i64 d],.agg [.int .i64 p.stiff,.int .i64 p.rise,.int .i64 p.full],.int .i64 h,.int .i64 l] H=some (.ret (.int .i64 (Rd.rested p h d)),H,[])
def LdOk (f:Nat→Int):Prop:=∀ i,0≤f i∧f i≤60
theorem zey (n:Nat)(f:Nat→Int)(i:Nat):(lsOf n f).getD i 0=if i<n then f i else 0:=by
 unfold lsOf
 rw[List.getD_eq_getElem?_getD,List.getElem?_map]
 by_cases h:i<n
 ·rw[List.getElem?_range h,if_pos h];rfl
 ·rw[List.getElem?_eq_none (by simpa using h),if_neg h];rfl
theorem ifA_0 {v:Rd.Evt}(h:v.kind=0):ifA v=.iface 168 (.agg []):=if_pos h
theorem ifA_1 {v:Rd.Evt}(h:v.kind=1):ifA v=.iface 171 (.agg [.int .i64 v.days]):=by
 unfold ifA
 rw[if_neg (by omega),if_pos h]
theorem ifA_2 {v:Rd.Evt}(h:v.kind=2):ifA v=.iface 169 (.agg []):=by
 unfold ifA
 rw[if_neg (by omega),if_neg (by omega)]
theorem zql (C:Cfg)(hC:C.calm=true)(call:CallF)(hA:AftC call)(r:Rd.Road)(hr:Rd.Fine r)(H:List AB)(xb mb eb:Nat)(hX:Rx r xb mb eb H)(p:Rd.Tr)(hp:TrOk p)(h:Int)(b1:-1000≤h)(b2:h≤1000)(f:Nat→Int)(hf:LdOk f)(many:Nat)(hm:many≤r.events.length):
  Wb C call H af164 [.ptr xb 0,trE p,.int .i64 h,.agg (arr10 f),.int .i64 many]
  (fun v _hp tc=>v=.int .i64 (Rd.heightR r p h (lsOf r.events.length f) many)∧tc=[]):=by
 have hXx:=hX.x
 have he10:=hr.events
 have hl:∀ i,0≤(lsOf r.events.length f).getD i 0∧(lsOf r.events.length f).getD i 0≤60:=fun i=>by
  rw[zey];split
  ·exact hf i
  ·omega
 have hbd:=Rd.heightR_bd hr hp.s1 hp.s2 hp.r1 hp.f1 hp.f2 hl b1 b2
 have t5:=zbg f
 by_cases hm0:many=0
 ·subst hm0
  have e:Rd.heightR r p h (lsOf r.events.length f) 0=h:=by simp[Rd.heightR,Rd.after]
  rw[e]
  have hE:=hX.e
  clear e hbd hl hf hA hX
  generalize arr10 f=R at *
  by_cases hn:r.events=[]
  ·have hev:evL r eb=.nils:=if_pos hn
   rw[hev] at hXx
   obtain ⟨y0,y1,y2,y3,y4,y5⟩:=bk' hXx
   clear hE hXx
   unfold Wb Wa af164 Zq Zu Zm Zl Zo Zd Za Zb Zf Zg Zj Zt Zn
   simp only[zipI,roadCs,List.cons_append,List.nil_append,trE] at *
   refine gA ?_
   refine zan hC 0 (by decide) (fun i st=>st={ tm:=tmA 37 [(20,.int .i64 0),(19,.int .i64 0),(18,.vs 1 []),(8,.ptr (H.length+1) 0),(6,.ptr H.length 0),(2,.int .i64 h)],df:=[],hp:=H++[.cells [.int .i64 p.stiff,.int .i64 p.rise,.int .i64 p.full],.cells R],tc:=[] }) ?_ (fun i st hi=>absurd hi (by omega)) ?_
   ·(exact invP)
   ·rintro st rfl
    refine gA ?_
    exact zac (.inl rfl) rfl (by simp) (by simp only[resL,resOf,zaa];simp[*,resV]) ⟨rfl,rfl⟩
  ·have hev:evL r eb=.sl eb 0 r.events.length 1:=if_neg hn
   rw[hev] at hXx
   obtain ⟨y0,y1,y2,y3,y4,y5⟩:=bk' hXx
   obtain ⟨x0,x1,x2,x3,x4,x5⟩:=bk' (hE hn)
   clear hE hXx
   unfold Wb Wa af164 Zq Zu Zm Zl Zo Zd Za Zb Zf Zg Zj Zt Zn
   simp only[zipI,roadCs,List.cons_append,List.nil_append,trE] at *
   refine gA ?_
   refine zan hC 0 (by decide) (fun i st=>st={ tm:=tmA 37 [(20,.int .i64 0),(19,.int .i64 0),(18,.vs 1 []),(8,.ptr (H.length+1) 0),(6,.ptr H.length 0),(2,.int .i64 h)],df:=[],hp:=H++[.cells [.int .i64 p.stiff,.int .i64 p.rise,.int .i64 p.full],.cells R],tc:=[] }) ?_ (fun i st hi=>absurd hi (by omega)) ?_
   ·(exact invP)
   ·rintro st rfl
    refine gA ?_
    exact zac (.inl rfl) rfl (by simp) (by simp only[resL,resOf,zaa];simp[*,resV]) ⟨rfl,rfl⟩
 ·have hn:r.events≠[]:=by intro e;rw[e] at hm;exact hm0 (by simpa using hm)
  have hev:evL r eb=.sl eb 0 r.events.length 1:=if_neg hn
  have hE:=hX.e hn
  rw[hev] at hXx
  obtain ⟨y0,y1,y2,y3,y4,y5⟩:=bk' hXx
  obtain ⟨x0,x1,x2,x3,x4,x5⟩:=bk' hE
  have hbl:(r.events.map ifA).length=r.events.length:=by simp
  have hstep:=fun i v (hv:r.events[i]?=some v)=>Rd.heightR_succ r p h (lsOf r.events.length f) hv
  have hz:Rd.heightR r p h (lsOf r.events.length f) 0=h:=by simp[Rd.heightR,Rd.after]
  have HB:=hideP (And.intro hbd (And.intro hstep hz))
  have HX:=hideP hX
  have HL:=hideP hl
  clear hbd hstep hl hX hE hz hXx
  unfold Wb Wa af164 Zq Zu Zm Zl Zo Zd Za Zb Zf Zg Zj Zt Zn
  have t6:=fun i (hi:i<10)=>zwg f hi
  generalize arr10 f=R at *
  simp only[zipI,roadCs,List.cons_append,List.nil_append,trE] at *
  refine gA ?_
  refine zan hC many (by unfold fuelL;omega) (fun i st=>∃ J,st={ tm:=tmA 37 [(20,.int .i64 i),(19,.int .i64 many),(18,.sl eb 0 many 1),(8,.ptr (H.length+1) 0),(6,.ptr H.length 0),(2,.int .i64 (Rd.heightR r p h (lsOf r.events.length f) i))],df:=[],hp:=H++.cells [.int .i64 p.stiff,.int .i64 p.rise,.int .i64 p.full]::.cells R::J,tc:=[] }) ?_ ?_ ?_
  ·refine ⟨[],?_⟩
   rw[HB.out.2.2]
   exact invP
  ·rintro i st hi ⟨J,rfl⟩
   have hie:i<r.events.length:=by omega
   have hge:r.events[i]?=some r.events[i]:=List.getElem?_eq_getElem hie
   have hk:=hr.event _ (List.getElem_mem hie)
   generalize r.events[i]=v at hge hk
   obtain ⟨q1,q2⟩:=HB.out.1 i (by omega)
   have hs:=HB.out.2.1 i v hge
   rw[zey,if_pos hie] at hs
   obtain ⟨l1,l2⟩:=hf i
   have t6':=t6 i (by omega)
   have hi10:(i:Int)<10:=by omega
   have hwi:IntKind.i64.wrap (↑i+1)=↑i+1:=zaf (by omega) (by omega)
   have hgv:(r.events.map ifA)[i]?=some (ifA v):=by rw[List.getElem?_map,hge];rfl
   generalize r.events.map ifA=CS at *
   have hgv':=ge_of hgv
   have HS:=hideP hs
   clear hs hf t6
   generalize Rd.heightR r p h (lsOf r.events.length f) i=a at *
   have fin:∀ (b:Int) J,b=Rd.heightR r p h (lsOf r.events.length f) (i+1)→∃ J',(H++.cells [.int .i64 p.stiff,.int .i64 p.rise,.int .i64 p.full]::.cells R::J,b)=(H++.cells [.int .i64 p.stiff,.int .i64 p.rise,.int .i64 p.full]::.cells R::J',Rd.heightR r p h (lsOf r.events.length f) (i+1)):=fun b J e=>⟨J,by rw[e]⟩
   have HF:=hideP fin
   clear fin
   rcases hk with ⟨k0,_⟩|⟨k1,k2⟩|⟨k2,_⟩
   ·have hb:Rd.heightR r p h (lsOf r.events.length f) (i+1)=a - Rd.sunk p (f i):=by rw[HS.out];unfold Rd.stepE;rw[if_pos k0]
    have hc:=fun H=>hA.pass H p hp a (f i) (by omega) (by omega) l1 (by omega)
    rw[ifA_0 k0] at hgv hgv'
    rw[hb]
    clear hA HS hb hp hr hge
    (repeat (first|(with_reducible apply zak;(focus ((conv=>lhs;simp[*,List.lookup,Nat.testBit_eq_decide_div_mod_eq])<;>exact rfl));simp only[addFl])|((with_reducible first|apply zaw|apply zay|apply zas|apply zaq|apply zao|apply zax|apply zar|apply zaz|(apply zap;· simp[*,zab])|(apply zam;· simp[*,zab]));try simp only[Then,Ops,OutB])|simp only[Nat.reduceEqDiff,reduceIte,OutB,Then]))
    refine ⟨J,?_⟩
    exact invP
   ·have hb:Rd.heightR r p h (lsOf r.events.length f) (i+1)=Rd.rested p a v.days:=by rw[HS.out];unfold Rd.stepE;rw[if_neg (by omega),if_pos k1]
    have hc:=fun H=>hA.rest H v.days p hp a (f i) (by omega) (by omega) (by omega) (by omega)
    rw[ifA_1 k1] at hgv hgv'
    rw[hb]
    clear hA HS hb hp hr hge
    (repeat (first|(with_reducible apply zak;(focus ((conv=>lhs;simp[*,List.lookup,Nat.testBit_eq_decide_div_mod_eq])<;>exact rfl));simp only[addFl])|((with_reducible first|apply zaw|apply zay|apply zas|apply zaq|apply zao|apply zax|apply zar|apply zaz|(apply zap;· simp[*,zab])|(apply zam;· simp[*,zab]));try simp only[Then,Ops,OutB])|simp only[Nat.reduceEqDiff,reduceIte,OutB,Then]))
    refine ⟨J,?_⟩
    exact invP
   ·have hb:Rd.heightR r p h (lsOf r.events.length f) (i+1)=a:=by rw[HS.out];unfold Rd.stepE;rw[if_neg (by omega),if_neg (by omega)]
    have hc:=fun H=>hA.look H p a (f i)
    rw[ifA_2 k2] at hgv hgv'
    rw[hb]
    clear hA HS hb hp hr hge
    (repeat (first|(with_reducible apply zak;(focus ((conv=>lhs;simp[*,List.lookup,Nat.testBit_eq_decide_div_mod_eq])<;>exact rfl));simp only[addFl])|((with_reducible first|apply zaw|apply zay|apply zas|apply zaq|apply zao|apply zax|apply zar|apply zaz|(apply zap;· simp[*,zab])|(apply zam;· simp[*,zab]));try simp only[Then,Ops,OutB])|simp only[Nat.reduceEqDiff,reduceIte,OutB,Then]))
    refine ⟨J,?_⟩
    exact invP
  ·rintro st ⟨J,rfl⟩
   clear HB HX HL hf t6
   generalize Rd.heightR r p h (lsOf r.events.length f) many=a
   refine gA ?_
   exact zac (.inl rfl) rfl (by simp) (by simp only[resL,resOf,zaa];simp[*,resV]) ⟨rfl,rfl⟩
end Ro
end Ev
namespace Rd
open Clm (Sp)
theorem upL_steps (f:Int→Int)(b:Int):∀ (m:Nat) (x:Int),∃ n:Nat,n≤m∧upL f b m x=x+n∧(∀ k:Nat,k<n→f (x+k)<b)∧(n=m∨¬ f (x+n)<b)
 |0,x=>⟨0,Nat.le_refl _,by simp[upL],fun k h=>absurd h (Nat.not_lt_zero k),.inl rfl⟩
 |m+1,x=>by
  unfold upL
  by_cases h:f x<b
  ·rw[if_pos h]
   obtain ⟨n,h1,h2,h3,h4⟩:=upL_steps f b m (x+1)
   refine ⟨n+1,by omega,by rw[h2];omega,fun k hk=>?_,?_⟩
   ·cases k with
    |zero=>simpa using h
    |succ k=>
     have:=h3 k (by omega)
     rwa [show x+1+(k:Int)=x+((k+1:Nat):Int) by omega] at this
   ·rcases h4 with h4|h4
    ·exact .inl (by omega)
    ·refine .inr ?_
     rwa [show x+1+(n:Int)=x+((n+1:Nat):Int) by omega] at h4
  ·rw[if_neg h]
   exact ⟨0,Nat.zero_le _,by simp,fun k h=>absurd h (Nat.not_lt_zero k),.inr (by simpa using h)⟩
theorem dnH_steps (f:Int→Int)(b:Int):∀ (m:Nat) (x:Int),∃ n:Nat,n≤m∧dnH f b m x=x - n∧(∀ k:Nat,k<n→b<f (x - k))∧(n=m∨¬ b<f (x - n))
 |0,x=>⟨0,Nat.le_refl _,by simp[dnH],fun k h=>absurd h (Nat.not_lt_zero k),.inl rfl⟩
 |m+1,x=>by
  unfold dnH
  by_cases h:b<f x
  ·rw[if_pos h]
   obtain ⟨n,h1,h2,h3,h4⟩:=dnH_steps f b m (x - 1)
   refine ⟨n+1,by omega,by rw[h2];omega,fun k hk=>?_,?_⟩
   ·cases k with
    |zero=>simpa using h
    |succ k=>
     have:=h3 k (by omega)
     rwa [show x - 1 - (k:Int)=x - ((k+1:Nat):Int) by omega] at this
   ·rcases h4 with h4|h4
    ·exact .inl (by omega)
    ·refine .inr ?_
     rwa [show x - 1 - (n:Int)=x - ((n+1:Nat):Int) by omega] at h4
  ·rw[if_neg h]
   exact ⟨0,Nat.zero_le _,by simp,fun k h=>absurd h (Nat.not_lt_zero k),.inr (by simpa using h)⟩
theorem zha (r:Road)(n:Nat)(p:Tr)(ls:List Int)(looks:Nat)(q:Evt × Nat):∀ (l:List (Evt × Nat)) (s:Sp),firstL r n p ls looks (l++[q]) s=firstL r n p ls looks [q] (firstL r n p ls looks l s)
 |[],s=>rfl
 |(v,i)::l,s=>by
   rw[List.cons_append,firstL,zha r n p ls looks q l]
   rfl
def firstT (r:Road)(n:Nat)(p:Tr)(ls:List Int)(looks i:Nat):Sp:=firstL r n p ls looks (r.events.zipIdx.take i) (r.parts.getD n default).height
theorem firstT_all (r:Road)(n:Nat)(p:Tr)(ls:List Int)(looks:Nat):firstT r n p ls looks r.events.length=firstR r n p ls looks:=by
 unfold firstT firstR
 rw[List.take_of_length_le (by simp)]
theorem firstT_succ (r:Road)(n:Nat)(p:Tr)(ls:List Int)(looks:Nat){i:Nat}{v:Evt}(hv:r.events[i]?=some v):firstT r n p ls looks (i+1)=if bit looks i∧v.kind=2∧v.part=n then narrow (fun h=>heightR r p h ls i) v.shows (firstT r n p ls looks i) else firstT r n p ls looks i:=by
 unfold firstT
 have:r.events.zipIdx[i]?=some (v,i):=by rw[List.getElem?_zipIdx,hv];simp
 rw[List.take_add_one,this]
 simp only[Option.toList_some]
 rw[zha,firstL,firstL]
theorem zty (f:Int→Int)(w s:Sp)(h0:0≤s.lo)(h1:s.hi≤60):0≤(narrow f w s).lo∧(narrow f w s).hi≤60:=by
 unfold narrow
 obtain ⟨n,a1,a2,_⟩:=upL_steps f w.lo (s.hi+1 - s.lo).toNat s.lo
 obtain ⟨m,b1,b2,_⟩:=dnH_steps f w.hi (s.hi+1 - (upL f w.lo (s.hi+1 - s.lo).toNat s.lo)).toNat s.hi
 simp only
 rw[b2,a2]
 omega
theorem firstT_bd {r:Road}(hr:Fine r){n:Nat}(hn:n<r.parts.length)(p:Tr)(ls:List Int)(looks:Nat):∀ i,i≤r.events.length→0≤(firstT r n p ls looks i).lo∧(firstT r n p ls looks i).hi≤60
 |0,_=>by
  have:=hr.part _ (part_mem hn)
  simp only[firstT,List.take_zero,firstL]
  omega
 |i+1,hi=>by
  have ih:=firstT_bd hr hn p ls looks i (by omega)
  rw[firstT_succ r n p ls looks (List.getElem?_eq_getElem hi)]
  split
  ·exact zty _ _ _ ih.1 ih.2
  ·exact ih
end Rd
namespace Ev
namespace Ro
open K
attribute [local simp] ev1 wantG spineK spine float xnew xval xeff zab zae zau zah zai addFl cellsOf pickC alive slLen slFt binI maxA maxK minA minK aeqK aeqS AV.cells spA zad fillA setAt bitsI nat_nn zav AV.plain apart
set_option maxRecDepth 100000
set_option maxHeartbeats 4000000
def HeightC (call:CallF)(r:Rd.Road):Prop:=∀ (H:List AB) (xb mb eb:Nat),Rx r xb mb eb H→∀ p:Rd.Tr,TrOk p→∀ h:Int,-1000≤h→h≤1000→∀ f,LdOk f→∀ many:Nat,many≤r.events.length →
 call (.fn (.func 164) [] []) [.ptr xb 0,.agg [.int .i64 p.stiff,.int .i64 p.rise,.int .i64 p.full],.int .i64 h,.agg (arr10 f),.int .i64 many] H=some (.ret (.int .i64 (Rd.heightR r p h (lsOf r.events.length f) many)),H,[])
structure QOk (r:Rd.Road) (q:Qn):Prop where
 f:LdOk q.f
 num:q.num<r.parts.length
 part:TrOk q.part
theorem zve (C:Cfg)(call:CallF)(r:Rd.Road)(H:List AB)(xb mb eb:Nat)(hX:Rx r xb mb eb H)(q:Qn)(es:List (AV × AV))(hm:H[mb]?=some (.map es))(hf:findA keyK (qA q) es=some (some (firstA r q))):
  Wb C call H af162 [.ptr xb 0,qA q] (fun v _hp tc=>v=firstA r q∧tc=[]):=by
 obtain ⟨y0,y1,y2,y3,y4⟩:=bk hX.x
 obtain ⟨m0,m1,m2,m3,m4⟩:=bk hm
 unfold Wb Wa af162 Zq Zr Zu Zm Zl Zo Zs Zd Ze Zh Zk Zc Za Zb Zf Zg Zx Zj Zt Zn Zi Zy Zw
 simp only[zipI,roadCs,List.cons_append,List.nil_append,qA,firstA,keyK] at *
 generalize firstQ r q=R at *
 refine gR ?_
 exact zac (.inl rfl) rfl (by simp) (by simp only[resL,resOf,zaa];simp[*,pickC,resV]) ⟨rfl,rfl⟩
theorem zqq (C:Cfg)(hC:C.calm=true)(call:CallF)(r:Rd.Road)(hr:Rd.Fine r)(hH:HeightC call r)(H:List AB)(xb mb eb:Nat)(hX:Rx r xb mb eb H)(q:Qn)(hq:QOk r q)(es es':List (AV × AV))(hm:H[mb]?=some (.map es))(hf:findA keyK (qA q) es=some none)(hput:putA keyK (qA q) (firstA r q) es=some es'):
  Wb C call H af162 [.ptr xb 0,qA q] (fun v hp tc=>v=firstA r q∧tc=[mb]∧hp[mb]?=some (.map es')):=by
 obtain ⟨y0,y1,y2,y3,y4⟩:=bk hX.x
 obtain ⟨m0,m1,m2,m3,m4⟩:=bk hm
 have hput':=hideP hput
 have he10:=hr.events
 have hgp:r.parts[q.num]?=some (r.parts.getD q.num default):=by rw[List.getD_eq_getElem?_getD,List.getElem?_eq_getElem hq.num];rfl
 have hgp':=ge_of hgp
 have hT0:Rd.firstT r q.num q.part (lsOf r.events.length q.f) q.looks 0=(r.parts.getD q.num default).height:=by simp[Rd.firstT,Rd.firstL]
 generalize r.parts.getD q.num default=P at *
 have hnum:=hq.num
 have hnl:q.num<r.parts.length:=hq.num
 have hh:∀ K (h:Int),-1000≤h→h≤1000→∀ many:Nat,many≤r.events.length→call (.fn (.func 164) [] []) [.ptr xb 0,.agg [.int .i64 q.part.stiff,.int .i64 q.part.rise,.int .i64 q.part.full],.int .i64 h,.agg (arr10 q.f),.int .i64 many] (H++K)=some (.ret (.int .i64 (Rd.heightR r q.part h (lsOf r.events.length q.f) many)),H++K,[]):=
  fun K h h1 h2 many hm=>hH _ xb mb eb (hX.app K) q.part hq.part h h1 h2 q.f hq.f many hm
 unfold Wb Wa af162 Zq Zr Zu Zm Zl Zo Zs Zd Ze Zh Zk Zc Za Zb Zf Zg Zx Zj Zt Zn Zi Zy Zw
 simp only[zipI,roadCs,List.cons_append,List.nil_append,qA,keyK] at *
 have HX:=hideP (And.intro hX (And.intro hq hh))
 clear hH hput hX hq hh
 (repeat (first|(with_reducible apply zak;(focus ((conv=>lhs;simp[*,keyOK,ptE,Nat.testBit_eq_decide_div_mod_eq])<;>exact rfl));simp only[addFl])|((with_reducible first|apply zaw|apply zay|apply zas|apply zaq|apply zao|apply zax|apply zar|apply zaz|(apply zap;· simp[*,zab])|(apply zam;· simp[*,zab]));try simp only[Then,Ops])|simp only[Nat.reduceEqDiff,reduceIte,OutB,Then]))
 with_reducible refine zan hC r.events.length (by unfold fuelL;omega) (fun i st=>∃ J,st={ tm:=tmA 116 [(37,.int .i64 i),(36,.int .i64 r.events.length),(35,.vs 7 (r.events.map evE)),(7,.ptr (H.length+3) 0),(4,.ptr (H.length+1) 0),(3,.ptr H.length 0),(0,.ptr xb 0)],df:=[],hp:=H++.cells [.int .i64 (q.f 0),.int .i64 (q.f 1),.int .i64 (q.f 2),.int .i64 (q.f 3),.int .i64 (q.f 4),.int .i64 (q.f 5),.int .i64 (q.f 6),.int .i64 (q.f 7),.int .i64 (q.f 8),.int .i64 (q.f 9),.int .i64 q.num,.int .i64 q.part.stiff,.int .i64 q.part.rise,.int .i64 q.part.full,.int .u64 q.looks]::.cells [.int .i64 0,.int .i64 0]::.cells [.int .i64 0,.int .i64 0]::.cells [.int .i64 (Rd.firstT r q.num q.part (lsOf r.events.length q.f) q.looks i).lo,.int .i64 (Rd.firstT r q.num q.part (lsOf r.events.length q.f) q.looks i).hi]::J,tc:=[] }) ?_ ?_ ?_
 ·refine ⟨[],?_⟩
  rw[hT0]
  exact invP
 ·rintro i st hi ⟨J,rfl⟩
  have hge:r.events[i]?=some r.events[i]:=List.getElem?_eq_getElem hi
  have hk:=hr.event _ (List.getElem_mem hi)
  generalize r.events[i]=v at hge hk
  have hge':=ge_of hge
  have hs:=Rd.firstT_succ r q.num q.part (lsOf r.events.length q.f) q.looks hge
  obtain ⟨bd0,bd1⟩:=Rd.firstT_bd hr hnum q.part (lsOf r.events.length q.f) q.looks i (by omega)
  have hbit:=zwa (n:=q.looks) (d:=i) (by omega)
  have hwi:IntKind.i64.wrap (↑i+1)=↑i+1:=zaf (by omega) (by omega)
  generalize Rd.firstT r q.num q.part (lsOf r.events.length q.f) q.looks i=s at *
  obtain ⟨lo,hi'⟩:=s
  simp only at bd0 bd1 ⊢
  have skip:¬ (Rd.bit q.looks i=true∧v.kind=2∧v.part=q.num)→Rd.firstT r q.num q.part (lsOf r.events.length q.f) q.looks (i+1)=⟨lo,hi'⟩:=fun h=>by rw[hs,if_neg h]
  by_cases e1:q.looks.testBit i=true
  ·by_cases e2:v.kind=2
   ·by_cases e3:v.part=q.num
    ·rw[hs,if_pos ⟨e1,e2,e3⟩]
     have HS:=hideP (And.intro bd0 (And.intro bd1 hk))
     rw[if_pos e1] at hbit
     simp at hbit
     clear hs skip hgp hgp' hT0 hk
     refine gF ?_
     obtain ⟨bd0,bd1,hk⟩:=HS.out
     obtain ⟨n1,a1,a2,a3,a4⟩:=Rd.upL_steps (fun h=>Rd.heightR r q.part h (lsOf r.events.length q.f) i) v.shows.lo (hi'+1 - lo).toNat lo
     obtain ⟨n2,c1,c2,c3,c4⟩:=Rd.dnH_steps (fun h=>Rd.heightR r q.part h (lsOf r.events.length q.f) i) v.shows.hi (hi'+1 - (lo+n1)).toNat hi'
     have hnar:Rd.narrow (fun h=>Rd.heightR r q.part h (lsOf r.events.length q.f) i) v.shows ⟨lo,hi'⟩=⟨lo+n1,hi' - n2⟩:=by
      unfold Rd.narrow
      simp only
      rw[a2,c2]
     rw[hnar]
     simp only at a3 a4 c3 c4 ⊢
     obtain ⟨hX,hq,hh⟩:=HX.out
     simp only[arr10] at hh
     have hh':=fun K h h1 h2=>hh K h h1 h2 i (by omega)
     have HH:=hideP hh'
     have HA:=hideP (And.intro a3 (And.intro a4 (And.intro c3 c4)))
     clear a3 a4 c3 c4 hh hh' hX hq hnar a2 c2
     with_reducible refine zan hC n1 (by unfold fuelL;omega) (fun k st=>st={ tm:=tmA 116 [(37,.int .i64 i),(36,.int .i64 r.events.length),(35,.vs 7 (r.events.map evE)),(9,.ptr (H.length+(J.length+1+1+1+1)) 0),(8,.int .i64 i),(7,.ptr (H.length+3) 0),(4,.ptr (H.length+1) 0),(3,.ptr H.length 0),(0,.ptr xb 0)],df:=[],hp:=H++.cells [.int .i64 (q.f 0),.int .i64 (q.f 1),.int .i64 (q.f 2),.int .i64 (q.f 3),.int .i64 (q.f 4),.int .i64 (q.f 5),.int .i64 (q.f 6),.int .i64 (q.f 7),.int .i64 (q.f 8),.int .i64 (q.f 9),.int .i64 q.num,.int .i64 q.part.stiff,.int .i64 q.part.rise,.int .i64 q.part.full,.int .u64 q.looks]::.cells [.int .i64 0,.int .i64 0]::.cells [.int .i64 0,.int .i64 0]::.cells [.int .i64 (lo+k),.int .i64 hi']::(J++[.cells [.int .i64 2,.int .i64 v.load.lo,.int .i64 v.load.hi,.int .i64 v.days,.int .i64 q.num,.int .i64 v.shows.lo,.int .i64 v.shows.hi]]),tc:=[] }) ?_ ?_ ?_
     ·(exact invP)
     ·rintro k st hk1 rfl
      have g1:lo+(k:Int)≤hi':=by omega
      have g2:=fun K=>HH.out K (lo+k) (by omega) (by omega)
      have g3:=HA.out.1 k hk1
      generalize Rd.heightR r q.part (lo+k) (lsOf r.events.length q.f) i=y at *
      have g4:IntKind.i64.wrap (lo+↑k+1)=lo+↑k+1:=zaf (by omega) (by omega)
      clear HA HH a1 c1
      refine gE ?_
      refine st_is (by simp[zag,zal]) rfl ?_ rfl
      simp[Int.add_assoc]
     ·rintro st rfl
      have g2:=fun K h=>HH.out K (lo+n1) (by omega) h
      have g5:lo+(n1:Int)≤hi'→n1<(hi'+1 - lo).toNat:=fun h=>by omega
      by_cases g1:lo+(n1:Int)≤hi'
      case' pos=>
       have g3:=HA.out.2.1.resolve_left (by have:=g5 g1;omega)
       have g6:=fun K=>g2 K (by omega)
       generalize Rd.heightR r q.part (lo+n1) (lsOf r.events.length q.f) i=y at *
       clear g5 g2
       refine gE ?_
      case' neg=>
       clear g5 g2
       refine gE ?_
      all_goals
       with_reducible refine zan hC n2 (by unfold fuelL;omega) (fun k st=>st={ tm:=tmA 116 [(37,.int .i64 i),(36,.int .i64 r.events.length),(35,.vs 7 (r.events.map evE)),(9,.ptr (H.length+(J.length+1+1+1+1)) 0),(8,.int .i64 i),(7,.ptr (H.length+3) 0),(4,.ptr (H.length+1) 0),(3,.ptr H.length 0),(0,.ptr xb 0)],df:=[],hp:=H++.cells [.int .i64 (q.f 0),.int .i64 (q.f 1),.int .i64 (q.f 2),.int .i64 (q.f 3),.int .i64 (q.f 4),.int .i64 (q.f 5),.int .i64 (q.f 6),.int .i64 (q.f 7),.int .i64 (q.f 8),.int .i64 (q.f 9),.int .i64 q.num,.int .i64 q.part.stiff,.int .i64 q.part.rise,.int .i64 q.part.full,.int .u64 q.looks]::.cells [.int .i64 0,.int .i64 0]::.cells [.int .i64 0,.int .i64 0]::.cells [.int .i64 (lo+n1),.int .i64 (hi' - k)]::(J++[.cells [.int .i64 2,.int .i64 v.load.lo,.int .i64 v.load.hi,.int .i64 v.days,.int .i64 q.num,.int .i64 v.shows.lo,.int .i64 v.shows.hi]]),tc:=[] }) ?_ ?_ ?_
       ·(exact invP)
       ·rintro k st hk1 rfl
        have g1:lo+(n1:Int)≤hi' - (k:Int):=by omega
        have g2:=fun K=>HH.out K (hi' - k) (by omega) (by omega)
        have g3:=HA.out.2.2.1 k hk1
        generalize Rd.heightR r q.part (hi' - k) (lsOf r.events.length q.f) i=y at *
        have g4:IntKind.i64.wrap (hi' - ↑k - 1)=hi' - ↑k - 1:=zaf (by omega) (by omega)
        clear HA HH a1 c1
        refine gE ?_
        refine st_is (by simp[zag,zal]) rfl ?_ rfl
        have e:hi' - (k:Int) - 1=hi' - ((k+1:Nat):Int):=by omega
        rw[e]
        try simp
       ·rintro st rfl
        have g2:=fun K h=>HH.out K (hi' - n2) h (by omega)
        have g5:lo+(n1:Int)≤hi' - (n2:Int)→n2<(hi'+1 - (lo+n1)).toNat:=fun h=>by omega
        by_cases g1:lo+(n1:Int)≤hi' - (n2:Int)
        ·have g3:=HA.out.2.2.2.resolve_left (by have:=g5 g1;omega)
         have g6:=fun K=>g2 K (by omega)
         generalize Rd.heightR r q.part (hi' - n2) (lsOf r.events.length q.f) i=y at *
         clear HA HH a1 c1 g5 g2
         refine gE ?_
         with_reducible apply Exists.intro
         exact invP
        ·clear HA HH a1 c1 g5 g2
         refine gE ?_
         with_reducible apply Exists.intro
         exact invP
    ·rw[skip fun h=>e3 h.2.2]
     have e3b:(v.part==(q.num:Int))=false:=by simpa using e3
     have e3c:(v.part != (q.num:Int))=true:=by simpa using e3
     rw[if_pos e1] at hbit
     simp at hbit
     clear hs skip hgp hgp' hT0 hk bd0 bd1
     refine gF ?_
     with_reducible apply Exists.intro
     exact invP
   ·rw[skip fun h=>e2 h.2.1]
    have e2b:(v.kind==2)=false:=by simpa using e2
    have e2c:(v.kind != 2)=true:=by simpa using e2
    rw[if_pos e1] at hbit
    simp at hbit
    clear hs skip hgp hgp' hT0 hk bd0 bd1
    refine gF ?_
    with_reducible apply Exists.intro
    exact invP
  ·rw[skip fun h=>e1 h.1]
   rw[if_neg e1] at hbit
   simp at hbit
   clear hs skip hgp hgp' hT0 hk bd0 bd1
   refine gF ?_
   with_reducible apply Exists.intro
   exact invP
 ·rintro st ⟨J,rfl⟩
  rw[Rd.firstT_all]
  have hput:=hput'.out
  have hfq:Rd.firstR r q.num q.part (lsOf r.events.length q.f) q.looks=firstQ r q:=rfl
  rw[hfq]
  clear hput' hfq hT0 hgp hgp'
  simp only[firstA] at *
  generalize firstQ r q=R at *
  have n1:∀ n,¬ mb=H.length+n:=by omega
  have n2:∀ n,¬ H.length+n=mb:=by omega
  have n3:∀ n,¬ H.length+n<H.length:=by omega
  refine gR ?_
  refine zac (.inl rfl) rfl (by simp) (by simp only[resL,resOf,zaa];simp[*,pickC,resV]) ⟨rfl,by simp,?_⟩
  simp[*]
end Ro
structure ItInv {α:Type} (h:Nat) (I0:List AB) (l:Nat) (S T:List Nat) (J:List α→List Nat→List AB→Prop) (M:List α→Nat→Prop) (d:List α) (hp:List AB) (tc:List Nat):Prop where
 w:∃ W,(∀ j∈W,I0.length≤j)∧J d W hp
 k:Kp tc I0 hp
 t:∀ j∈tc,j∈S++T
 y:d=[]∨l∈tc
 m:∀ j,j<h→M d j→j∈tc
structure ItCtx {α:Type} (call:CallF) (H I0:List AB) (l:Nat) (S T:List Nat) (arg:α→AV) (L:List α) (U:List AB→Prop) (J:List α→List Nat→List AB→Prop) (E:List α→List AB→Prop) (M:List α→Nat→Prop):Prop where
 hT:∀ j∈T,j<H.length
 hS:∀ j∈S,j<H.length
 lT:l∈T
 k0:Kp [] H I0
 ys:Yields call l H.length T arg L S U J E M
 m0:∀ j,¬ M [] j
 yu:∀ d W G,J d W G→U G
section
variable {α:Type} {call:CallF} {H I0:List AB} {l:Nat} {S T:List Nat} {arg:α→AV} {L:List α} {U:List AB→Prop} {J:List α→List Nat→List AB→Prop} {E:List α→List AB→Prop} {M:List α→Nat→Prop}
theorem ItCtx.start (c:ItCtx call H I0 l S T arg L U J E M)(h:J [] [] H)(hu:U I0):ItInv H.length I0 l S T J M [] I0 []:=
 ⟨⟨[],by simp,c.ys.stable _ _ _ _ h (fun j hj _ _=>c.k0.get j hj (by simp)) hu⟩,Kp.refl _ _,by simp,.inl rfl,fun j _ hj=>absurd hj (c.m0 j)⟩
theorem ItInv.u (c:ItCtx call H I0 l S T arg L U J E M){d:List α}{hp:List AB}{tc:List Nat}(h:ItInv H.length I0 l S T J M d hp tc):U hp:=by
 obtain ⟨W,_,hj⟩:=h.w
 exact c.yu _ _ _ hj
theorem ItInv.at {d:List α}{hp:List AB}{tc:List Nat}(h:ItInv H.length I0 l S T J M d hp tc){b:Nat}{x:AB}(hx:I0[b]?=some x)(hb:b∉S)(ht:b∉T):hp[b]?=some x:=
 h.k.at hx fun hh=>(List.mem_append.1 (h.t b hh)).elim hb ht
theorem ItInv.own (c:ItCtx call H I0 l S T arg L U J E M){d:List α}{hp:List AB}{tc:List Nat}(h:ItInv H.length I0 l S T J M d hp tc){b:Nat}{x:AB}(hx:I0[b]?=some x)(hb:H.length≤b):hp[b]?=some x:=
 h.at hx (fun hh=>by have:=c.hS b hh;omega) fun hh=>by have:=c.hT b hh;omega
theorem ItInv.len {d:List α}{hp:List AB}{tc:List Nat}(h:ItInv H.length I0 l S T J M d hp tc):I0.length≤hp.length:=h.k.len
theorem ItInv.turn (c:ItCtx call H I0 l S T arg L U J E M){d:List α}{hp hp1:List AB}{tc tc1:List Nat}(h:ItInv H.length I0 l S T J M d hp tc)(k1:Kp tc1 hp hp1)(hs:∀ j∈tc1,j∈S)(hu:U hp1):ItInv H.length I0 l S T J M d hp1 (tc1.filter (·<H.length)++tc):=by
 obtain ⟨W,w1,w2⟩:=h.w
 refine ⟨⟨W,w1,c.ys.stable _ _ _ _ w2 (fun j hj _ hn=>k1.get j hj fun hh=>hn (hs j hh)) hu⟩,?_,?_,h.y.imp id fun hh=>List.mem_append_right _ hh,fun j h1 h2=>List.mem_append_right _ (h.m j h1 h2)⟩
 ·refine (h.k.trans2 k1).mono fun j hj hh=>?_
  rcases List.mem_append.1 hh with g|g
  ·have g1:=(List.mem_filter.1 g).1
   have:=c.hS j (hs j g1)
   exact List.mem_append_left _ (List.mem_filter.2 ⟨g1,by simpa using this⟩)
  ·exact List.mem_append_right _ g
 ·intro j hj
  rcases List.mem_append.1 hj with g|g
  ·exact List.mem_append_left _ (hs j (List.mem_filter.1 g).1)
  ·exact h.t j g
theorem ItInv.app (c:ItCtx call H I0 l S T arg L U J E M){d:List α}{hp:List AB}{tc:List Nat}(h:ItInv H.length I0 l S T J M d hp tc)(K:List AB)(hu:U (hp++K)):ItInv H.length I0 l S T J M d (hp++K) tc:=by
 obtain ⟨W,w1,w2⟩:=h.w
 exact ⟨⟨W,w1,c.ys.stable _ _ _ _ w2 (fun j hj _ _=>List.getElem?_append_left hj) hu⟩,h.k.trans (Kp.app _ _),h.t,h.y,h.m⟩
theorem ItInv.keep (c:ItCtx call H I0 l S T arg L U J E M){d:List α}{hp hp1:List AB}{tc:List Nat}(h:ItInv H.length I0 l S T J M d hp tc)(k1:Kp S hp hp1)(k2:Kp tc I0 hp1)(hu:U hp1):ItInv H.length I0 l S T J M d hp1 tc:=by
 obtain ⟨W,w1,w2⟩:=h.w
 exact ⟨⟨W,w1,c.ys.stable _ _ _ _ w2 (fun j hj _ hn=>k1.get j hj hn) hu⟩,k2,h.t,h.y,h.m⟩
structure ItEnd (H:List AB) (l:Nat) (S T:List Nat) (E:List α→List AB→Prop) (M:List α→Nat→Prop) (L:List α) (hp:List AB) (tc:List Nat):Prop where
 k:Kp tc H hp
 e:∃ d,d <+: L∧E d hp∧∀ j,j<H.length→M d j→j∈tc
 t:∀ j∈tc,j∈S++T
 y:l∈tc
theorem ItInv.step (c:ItCtx call H I0 l S T arg L U J E M){d:List α}{hp:List AB}{tc:List Nat}(h:ItInv H.length I0 l S T J M d hp tc){s:α}(hp1:d++[s] <+: L):
  ∃ b hp' tc',call (.yield l) [arg s] hp=some (.ret (.bool b),hp',tc')∧(b=true→ItInv H.length I0 l S T J M (d++[s]) hp' (tc'.filter (·<H.length)++tc))∧(b=false→ItEnd H l S T E M L hp' (tc'.filter (·<H.length)++tc)):=by
 obtain ⟨W,w1,w2⟩:=h.w
 obtain ⟨b,hp',tc',W',s1,s9,s2,s3,s6,s4,s5,s10⟩:=c.ys.step d s W hp hp1 w2
 have h0:=c.k0.len
 have hl9:l∈tc'.filter (·<H.length)++tc:=List.mem_append_left _ (List.mem_filter.2 ⟨s9,by simpa using c.hT _ c.lT⟩)
 have hn:∀ j∈tc'.filter (·<H.length)++tc,j∈S++T:=by
  intro j hj
  rcases List.mem_append.1 hj with g|g
  ·obtain ⟨g1,g2⟩:=List.mem_filter.1 g
   have g2:j<H.length:=by simpa using g2
   rcases List.mem_append.1 (s2 j g1) with g|g
   ·exact List.mem_append_right _ g
   ·have:=w1 j g;omega
  ·exact h.t j g
 have hk:Kp (tc'.filter (·<H.length)++tc) I0 hp':=(h.k.trans2 s3).mono fun j hj hh=>by
  rcases List.mem_append.1 hh with g|g
  ·have g1:=(List.mem_filter.1 g).1
   rcases List.mem_append.1 (s2 j g1) with q|q
   ·exact List.mem_append_left _ (List.mem_filter.2 ⟨g1,by simpa using c.hT j q⟩)
   ·have:=w1 j q;omega
  ·exact List.mem_append_right _ g
 have hm:∀ j,j<H.length→M (d++[s]) j→j∈tc'.filter (·<H.length)++tc:=fun j h1 h2=>by
  rcases s10 j h1 h2 with g|g
  ·exact List.mem_append_right _ (h.m j h1 g)
  ·exact List.mem_append_left _ (List.mem_filter.2 ⟨g,by simpa using h1⟩)
 refine ⟨b,hp',tc',s1,fun hb=>⟨⟨W',fun j hj=>?_,s4 hb⟩,hk,hn,.inr hl9,hm⟩,fun hb=>⟨(c.k0.mono fun _ _ h=>by cases h).trans hk,⟨_,hp1,(s5 hb).1,hm⟩,hn,hl9⟩⟩
 have:=h.k.len
 rcases s6 j hj with g|g
 ·exact w1 j g
 ·omega
def ItPost (H:List AB)(l:Nat)(S T:List Nat)(J:List α→List Nat→List AB→Prop)(E:List α→List AB→Prop)(M:List α→Nat→Prop)(L:List α)(v:AV)(hp:List AB)(tc:List Nat):Prop:=
 v=.tup []∧(∀ j∈tc,j∈S++T)∧Kp tc H hp∧((∃ W,(∀ j∈W,H.length≤j)∧J L W hp∧(L=[]∨l∈tc)∧∀ j,j<H.length→M L j→j∈tc)∨∃ d,d <+: L∧E d hp∧l∈tc∧∀ j,j<H.length→M d j→j∈tc)
theorem ItInv.post (c:ItCtx call H I0 l S T arg L U J E M){hp:List AB}{tc:List Nat}(h:ItInv H.length I0 l S T J M L hp tc):ItPost H l S T J E M L (.tup []) hp tc:=by
 obtain ⟨W,w1,w2⟩:=h.w
 have h0:=c.k0.len
 exact ⟨rfl,h.t,(c.k0.mono fun _ _ h=>by cases h).trans h.k,.inl ⟨W,fun j hj=>by have:=w1 j hj;omega,w2,h.y,h.m⟩⟩
theorem ItEnd.post {hp:List AB}{tc:List Nat}(h:ItEnd H l S T E M L hp tc):ItPost H l S T J E M L (.tup []) hp tc:=by
 obtain ⟨d,d1,d2,d3⟩:=h.e
 exact ⟨rfl,h.t,h.k,.inr ⟨d,d1,d2,h.y,d3⟩⟩
end
end Ev
namespace Rd
open Clm (spanL)
def rowP (P:Pt)(s:Int)(k:Nat):List Tr:=((spanL P.rise).take k).map fun k=>⟨s,k,P.full⟩
def colP (P:Pt)(k:Nat):List Tr:=((spanL P.stiff).take k).flatMap fun s=>(spanL P.rise).map fun k=>⟨s,k,P.full⟩
theorem colP_all (P:Pt):colP P (spanL P.stiff).length=partsR P:=by unfold colP partsR;rw[List.take_length]
theorem rowP_succ {P:Pt}{k:Nat}{h:Int}(s:Int)(hh:(spanL P.rise)[k]?=some h):rowP P s (k+1)=rowP P s k++[⟨s,h,P.full⟩]:=Clm.map_succ _ hh
theorem colP_succ {P:Pt}{k:Nat}{s:Int}(hs:(spanL P.stiff)[k]?=some s):colP P (k+1)=colP P k++rowP P s (spanL P.rise).length:=by
 unfold colP rowP;rw[Clm.flat_succ _ hs,List.take_length]
theorem colP_pre {P:Pt}{i j:Nat}{s k:Int}(hs:(spanL P.stiff)[i]?=some s)(hk:(spanL P.rise)[j]?=some k):(colP P i++rowP P s j)++[⟨s,k,P.full⟩] <+: partsR P:=by
 unfold colP rowP partsR
 rw[List.append_assoc]
 exact Clm.pre_flat _ hs (Clm.pre_map _ hk)
end Rd
namespace Ev
namespace Ro
open K
attribute [local simp] ev1 wantG spineK spine float xnew xval xeff zab zae zau zah zai addFl cellsOf pickC alive slLen slFt binI maxA maxK minA minK aeqK aeqS AV.cells spA zad fillA setAt bitsI nat_nn zav AV.plain apart
set_option maxRecDepth 100000
set_option maxHeartbeats 4000000
theorem zpt (C:Cfg)(hC:C.calm=true)(call:CallF)(r:Rd.Road)(hr:Rd.Fine r)(H:List AB)(xb mb eb:Nat)(hX:Rx r xb mb eb H)(n:Nat)(hn:n<r.parts.length)(b1 b2 l:Nat)
  (h1:H[b1]?=some (.cells [.ptr xb 0])) (h2:H[b2]?=some (.cells [.int .i64 n])) (T:List Nat) (J:List Rd.Tr→List Nat→List AB→Prop) (E:List Rd.Tr→List AB→Prop) (M:List Rd.Tr→Nat→Prop)
  (hM:∀ j,¬ M [] j) (hT:∀ j∈T,j<H.length) (hlT:l∈T) (hJ0:J [] [] H) (hJY:∀ d W G,J d W G→Rx r xb mb eb G)
  (hY:Yields call l H.length T trE (Rd.partsR (r.parts.getD n default)) [mb] (Rx r xb mb eb) J E M):
  Wb C call H af174 [.yield l,.ptr b1 0,.ptr b2 0]
   ((ItPost H l [mb] T J E M (Rd.partsR (r.parts.getD n default)))):=by
 have hpl:=hr.part _ (Rd.part_mem hn)
 have hge:r.parts[n]?=some (r.parts.getD n default):=by rw[List.getD_eq_getElem?_getD,List.getElem?_eq_getElem hn];rfl
 generalize r.parts.getD n default=P at *
 have hge':=ge_of hge
 have hn':(n:Int)<r.parts.length:=by omega
 obtain ⟨y0,y1,y2,y3,y4⟩:=bk hX.x
 obtain ⟨p0,p1,p2,p3,p4⟩:=bk h1
 obtain ⟨q0,q1,q2,q3,q4⟩:=bk h2
 obtain ⟨I0,hI0⟩:∃ I0:List AB,I0=H++[.cells [.int .i64 P.height.lo,.int .i64 P.height.hi,.int .i64 P.stiff.lo,.int .i64 P.stiff.hi,.int .i64 P.rise.lo,.int .i64 P.rise.hi,.int .i64 P.full]]:=⟨_,rfl⟩
 have ctx:ItCtx call H I0 l [mb] T trE (Rd.partsR P) (Rx r xb mb eb) J E M:=⟨hT,by simpa using hX.ml,hlT,by rw[hI0];exact Kp.app _ _,hY,hM,hJY⟩
 have hI:ItInv H.length I0 l [mb] T J M [] I0 []:=ctx.start hJ0 (by rw[hI0];exact hX.app _)
 have hown:I0[H.length]?=some (.cells [.int .i64 P.height.lo,.int .i64 P.height.hi,.int .i64 P.stiff.lo,.int .i64 P.stiff.hi,.int .i64 P.rise.lo,.int .i64 P.rise.hi,.int .i64 P.full]):=by rw[hI0];simp
 have HC:=hideP (And.intro ctx (And.intro hI (And.intro hown hI0)))
 clear ctx hI hown hI0 hY hJ0 hJY hT hlT hX h1 h2
 unfold Wb Wa af174 Zq Zr Zu Zm Zl Zo Zd Ze Za Zb Zf Zg Zj Zt Zi
 simp only[zipI,roadCs,List.cons_append,List.nil_append] at *
 refine gJ ?_
 obtain ⟨ctx,hI,hown,hI0⟩:=HC.out
 have hns:=Clm.span_len P.stiff
 have hnk:=Clm.span_len P.rise
 have gs:=fun i (h:i<(Clm.spanL P.stiff).length)=>(List.getElem?_eq_getElem h).trans (congrArg some (Clm.span_get P.stiff h))
 have gk:=fun i (h:i<(Clm.spanL P.rise).length)=>(List.getElem?_eq_getElem h).trans (congrArg some (Clm.span_get P.rise h))
 have hfacts:∀ d hp tc,ItInv H.length I0 l [mb] T J M d hp tc→Bk hp H.length (.cells [.int .i64 P.height.lo,.int .i64 P.height.hi,.int .i64 P.stiff.lo,.int .i64 P.stiff.hi,.int .i64 P.rise.lo,.int .i64 P.rise.hi,.int .i64 P.full]):=fun d hp tc h=>bk' (h.own ctx hown (Nat.le_refl _))
 clear y0 y1 y2 y3 y4 p0 p1 p2 p3 p4 q0 q1 q2 q3 q4 hge hge' hn' HC
 rw[← hI0]
 clear hI0
 with_reducible refine zan hC (Clm.spanL P.stiff).length (by unfold fuelL;omega) (fun i st=>∃ hp tc,ItInv H.length I0 l [mb] T J M (Rd.colP P i) hp tc∧st={ tm:=tmA 43 [(5,.int .i64 (P.stiff.lo+i)),(4,.ptr H.length 0),(0,.yield l)],df:=[],hp:=hp,tc:=tc }) ?_ ?_ ?_
 ·refine ⟨_,_,hI,?_⟩
  exact invP
 ·clear hI
  rintro i st hi ⟨hp,tc,hV,rfl⟩
  obtain ⟨f0,f1,f2,f3,f4,f5⟩:=hfacts _ _ _ hV
  have e1:P.stiff.lo+(i:Int)≤P.stiff.hi:=by omega
  have hw:IntKind.i64.wrap (P.stiff.lo+↑i+1)=P.stiff.lo+↑i+1:=zaf (by omega) (by omega)
  refine gA ?_
  with_reducible refine zan hC (Clm.spanL P.rise).length (by unfold fuelL;omega) (fun j st=>∃ hp tc,ItInv H.length I0 l [mb] T J M (Rd.colP P i++Rd.rowP P (P.stiff.lo+i) j) hp tc∧st={ tm:=tmA 43 [(6,.int .i64 (P.rise.lo+j)),(5,.int .i64 (P.stiff.lo+i)),(4,.ptr H.length 0),(0,.yield l)],df:=[],hp:=hp,tc:=tc }) ?_ ?_ ?_
  ·refine ⟨_,_,by simpa [Rd.rowP] using hV,?_⟩
   exact invP
  ·clear hV f0 f1 f2 f3 f4 f5 hp tc
   rintro j st hj ⟨hp,tc,hV,rfl⟩
   obtain ⟨f0,f1,f2,f3,f4,f5⟩:=hfacts _ _ _ hV
   have e2:P.rise.lo+(j:Int)≤P.rise.hi:=by omega
   have hpre:=Rd.colP_pre (gs i hi) (gk j hj)
   obtain ⟨b,hp',tc',s1,s2,s3⟩:=hV.step ctx hpre
   have hw2:IntKind.i64.wrap (P.rise.lo+↑j+1)=P.rise.lo+↑j+1:=zaf (by omega) (by omega)
   have HS:=hideP (And.intro s2 s3)
   simp only[trE] at s1
   clear s2 s3 hpre hV hfacts ctx
   cases b with
   |true=>
    refine gA ?_
    have hN:=HS.out.1 rfl
    rw[List.append_assoc,← Rd.rowP_succ _ (gk j hj)] at hN
    with_reducible refine ⟨_,_,hN,?_⟩
    refine st_is ?_ rfl rfl rfl
    simp[zag,zal,Int.add_assoc]
   |false=>
    refine gA ?_
    exact zac (.inr rfl) rfl (HS.out.2 rfl).k.len (by simp only[resL];rfl) (HS.out.2 rfl).post
  ·clear hV f0 f1 f2 f3 f4 f5 hp tc
   rintro st ⟨hp,tc,hV,rfl⟩
   obtain ⟨f0,f1,f2,f3,f4,f5⟩:=hfacts _ _ _ hV
   have e3:¬ (P.rise.lo+((Clm.spanL P.rise).length:Int)≤P.rise.hi):=by omega
   rw[← Rd.colP_succ (gs i hi)] at hV
   clear hfacts ctx hnk
   refine gA ?_
   with_reducible refine ⟨_,_,hV,?_⟩
   refine st_is ?_ rfl rfl rfl
   simp[zag,zal,Int.add_assoc]
 ·clear hI
  rintro st ⟨hp,tc,hV,rfl⟩
  obtain ⟨f0,f1,f2,f3,f4,f5⟩:=hfacts _ _ _ hV
  have e3:¬ (P.stiff.lo+((Clm.spanL P.stiff).length:Int)≤P.stiff.hi):=by omega
  rw[Rd.colP_all] at hV
  clear hfacts hns
  have HV:=hideP (hV.post ctx)
  have hl:=hV.len
  have hl0:=ctx.k0.len
  clear hV ctx
  refine gA ?_
  exact zac (.inr rfl) rfl (by simp only;omega) (by simp only[resL];rfl) HV.out
def PrPre (xb b1 b2 n:Nat)(H:List AB)(_:List Nat):Prop:=H[b1]?=some (.cells [.ptr xb 0])∧H[b2]?=some (.cells [.int .i64 n])
def PartI (C:Cfg)(k m:Nat)(r:Rd.Road):Prop:=∀ xb mb eb n b1 b2,n<r.parts.length→IterG C k (m+1) 174 [] [.ptr b1 0,.ptr b2 0] trE (Rd.partsR (r.parts.getD n default)) [mb] (Rx r xb mb eb) (PrPre xb b1 b2 n)
theorem ztt {C:Cfg}(hC:C.calm=true){m:Nat}{r:Rd.Road}(hr:Rd.Fine r)(h0:Has C 174 af174):PartI C m m r:=by
 intro xb mb eb n b1 b2 hn
 refine zez hC h0.ext h0.exth h0.fns h0.whole (Nat.le_of_ble_eq_true rfl) ?_
 intro H l T J E M ⟨p1,p2⟩ h2 h3 h4 h5 h7 h6
 exact zpt C hC _ r hr H xb mb eb (h5 _ _ _ h4) n hn b1 b2 l p1 p2 T J E M h7 h2 h3 h4 h5 h6
end Ro
structure HE (H H':List AB) (tc:List Nat):Prop where
 len:H.length≤H'.length
 same:∀ j,j<H.length→j∉tc→H'[j]?=H[j]?
theorem HE.refl (H:List AB)(tc:List Nat):HE H H tc:=⟨Nat.le_refl _,fun _ _ _=>rfl⟩
theorem HE.app (H K:List AB)(tc:List Nat):HE H (H++K) tc:=⟨by simp,fun j hj _=>List.getElem?_append_left hj⟩
theorem HE.set1 (H:List AB)(b:Nat)(x:AB):HE H (H.set b x) [b]:=⟨by simp,fun j _ hn=>List.getElem?_set_ne (by simp at hn;omega)⟩
theorem HE.set1app (H:List AB)(b:Nat)(x:AB)(K:List AB):HE H (H.set b x++K) [b]:=⟨by simp,fun j hj hn=>by rw[List.getElem?_append_left (by simpa using hj),List.getElem?_set_ne (by simp at hn;omega)]⟩
theorem zzg {H:List AB}{ρ:Opnd→AV}{k:AK}{r:XR}(h:xeff H ρ k=some r):HE H r.hp r.tc:=by
 unfold xeff at h
 split at h
 ·split at h
  ·split at h
   ·split at h
    ·cases h;exact HE.set1 _ _ _
    ·cases h
   ·cases h
  ·cases h
 ·split at h
  ·split at h
   ·split at h
    ·obtain ⟨es,_,rfl⟩:=Option.map_eq_some_iff.1 h;exact HE.set1 _ _ _
    ·cases h
   ·cases h
  ·cases h
 ·split at h
  ·split at h
   ·split at h
    ·obtain ⟨es,_,rfl⟩:=Option.map_eq_some_iff.1 h;exact HE.set1 _ _ _
    ·cases h
   ·cases h
  ·cases h
 ·split at h
  ·split at h
   ·split at h
    ·split at h
     ·cases h;exact HE.set1 _ _ _
     ·cases h
    ·cases h
   ·cases h
  ·cases h
 ·split at h
  ·split at h
   ·split at h
    ·cases h;exact HE.refl _ _
    ·split at h
     ·cases h;exact HE.app _ _ _
     ·cases h
   ·split at h
    ·split at h
     ·split at h
      ·cases h;exact HE.set1app _ _ _ _
      ·cases h
     ·cases h
    ·cases h
   ·cases h
  ·cases h
 ·split at h
  ·split at h
   ·split at h
    ·split at h
     ·cases h;exact HE.set1 _ _ _
     ·cases h
    ·cases h
   ·cases h
  ·cases h
 ·cases h
def CallHE (call:CallF):Prop:=∀ f args H x H' tc,call f args H=some (x,H',tc)→HE H H' tc
structure StE (pin:Nat) (st st':St):Prop where
 len:st.hp.length≤st'.hp.length
 tc:∀ j,j∈st.tc→j∈st'.tc
 same:∀ j,j<pin→j∉st'.tc→st'.hp[j]?=st.hp[j]?
theorem StE.refl (pin:Nat)(st:St):StE pin st st:=⟨Nat.le_refl _,fun _ h=>h,fun _ _ _=>rfl⟩
theorem StE.trans {pin:Nat}{a b c:St}(h:StE pin a b)(k:StE pin b c):StE pin a c:=⟨Nat.le_trans h.len k.len,fun j hj=>k.tc j (h.tc j hj),fun j hj hn=>(k.same j hj hn).trans (h.same j hj fun q=>hn (k.tc j q))⟩
theorem StE.of {pin:Nat}{st:St}{H':List AB}{tc:List Nat}(hp:pin≤st.hp.length)(h:HE st.hp H' tc){st':St}(e1:st'.hp=H')(e2:st'.tc=tc.filter (·<pin)++st.tc):StE pin st st':=
 ⟨by rw [e1]; exact h.len, fun j hj => by rw [e2]; exact List.mem_append_right _ hj, fun j hj hn => by
  rw[e1]
  refine h.same j (by omega) fun q=>hn ?_
  rw[e2]
  exact List.mem_append_left _ (List.mem_filter.2 ⟨q,by simpa using hj⟩)⟩
theorem StE.same_hp {pin:Nat}{st st':St}(e1:st'.hp=st.hp)(e2:st'.tc=st.tc):StE pin st st':=⟨by rw[e1];exact Nat.le_refl _,fun j hj=>by rw[e2];exact hj,fun j _ _=>by rw[e1]⟩
theorem znb {call:CallF}(hc:CallHE call){ρ:Opnd→AV}{H:List AB}{k:AK}{x:CRes}{H':List AB}{tc:List Nat}(h:spine call ρ H k=some (x,H',tc)):HE H H' tc:=by
 unfold spine at h
 split at h
 ·split at h
  ·cases h;exact HE.refl _ _
  ·cases h
 ·cases h
 ·exact hc _ _ _ _ _ _ h
 ·split at h
  ·split at h
   ·exact hc _ _ _ _ _ _ h
   ·cases h
  ·cases h
 ·obtain ⟨r,h1,h2⟩:=Option.map_eq_some_iff.1 h
  cases h2
  exact zzg h1
theorem zyj {ρ:Opnd→AV}{H:List AB}{k:AK}{v:AV}{H':List AB}{ft:List Nat}(h:float ρ H k=some (v,H',ft)):HE H H' []:=by
 unfold float at h
 split at h
 ·cases h;exact HE.app _ _ _
 ·split at h
  ·split at h
   ·cases h;exact HE.refl _ _
   ·cases h
  ·cases h
theorem yak {C:Cfg}{call:CallF}(hc:CallHE call){pin:Nat}{nod drawn:Bool}{fl:List (Nat × List Nat)}{o:AOp}{st:St}(hp:pin≤st.hp.length){r:O1}(h:ev1 C call pin nod drawn fl o st=some r):(∃ ft st',r=.next ft st'∧StE pin st st')∨∃ v st',r=.pan v st'∧StE pin st st':=by
 unfold ev1 at h
 split at h
 ·cases h
 ·cases h;exact .inl ⟨_,_,rfl,StE.same_hp rfl rfl⟩
 ·split at h
  ·split at h
   ·simp only[cond_eq_ite] at h
    split at h
    ·cases h
    ·cases h;exact .inl ⟨_,_,rfl,StE.same_hp rfl rfl⟩
   ·cases h
  ·simp only[cond_eq_ite] at h
   split at h
   ·split at h
    ·rename_i hs
     split at h
     ·cases h;exact .inl ⟨_,_,rfl,StE.of hp (znb hc hs) rfl rfl⟩
     ·cases h
    ·rename_i hs
     split at h
     ·cases h;exact .inr ⟨_,_,rfl,StE.of hp (znb hc hs) rfl rfl⟩
     ·cases h
    ·cases h
   ·split at h
    ·rename_i hs
     cases h
     have:=zyj hs
     exact .inl ⟨_,_,rfl,this.len,fun _ h=>h,fun j hj _=>this.same j (by omega) (by simp)⟩
    ·cases h
theorem zhc {C:Cfg}{call:CallF}(hc:CallHE call){pin:Nat}{nod drawn:Bool}:∀ (l:List AOp) (fl:List (Nat × List Nat)) (st:St),pin≤st.hp.length→∀ {x:Option AV} {st':St},evOps C call pin nod drawn l fl st=some (x,st')→StE pin st st'
 |[],fl,st,hp,x,st',h=>by cases h;exact StE.refl _ _
 |o::l,fl,st,hp,x,st',h=>by
  simp only[evOps] at h
  cases h1:ev1 C call pin nod drawn fl o st with
  |none=>rw[h1] at h;cases h
  |some r=>
   rw[h1] at h
   rcases yak hc hp h1 with ⟨ft,s1,rfl,h2⟩|⟨v,s1,rfl,h2⟩
   ·exact h2.trans (zhc hc l _ s1 (Nat.le_trans hp h2.len) h)
   ·cases h;exact h2
theorem zkh {pin:Nat}{body:St→Option (AExit × St)}{head:St→St}(hb:∀ st,pin≤st.hp.length→∀ {e st'},body st=some (e,st')→StE pin st st')(hh:∀ st,(head st).hp=st.hp∧(head st).tc=st.tc):∀ (n:Nat) (st:St),pin≤st.hp.length→∀ {e:AExit} {st':St},loopN body head n st=some (e,st')→StE pin st st'
 |0,st,hp,e,st',h=>by cases h
 |n+1,st,hp,e,st',h=>by
  have h0:StE pin st (head st):=StE.same_hp (hh st).1 (hh st).2
  have hp0:pin≤(head st).hp.length:=by rw[(hh st).1];exact hp
  simp only[loopN] at h
  cases h1:body (head st) with
  |none=>rw[h1] at h;cases h
  |some r=>
   obtain ⟨e1,s1⟩:=r
   have h2:=h0.trans (hb _ hp0 h1)
   rw[h1] at h
   cases e1 with
   |normal=>exact h2.trans (zkh hb hh n s1 (Nat.le_trans hp h2.len) h)
   |exit i=>cases h;exact h2
   |ret=>cases h;exact h2
   |panic v=>cases h;exact h2
theorem ev_ste {C:Cfg}(hC:C.calm=true){call:CallF}(hc:CallHE call){pin:Nat}{rd:Option Nat}:∀ (c:AC) (st:St),pin≤st.hp.length→∀ {e:AExit} {st':St},ev C call pin rd c st=some (e,st')→StE pin st st'
 |.skip,st,hp,e,st',h=>by cases h;exact StE.refl _ _
 |.exit _,st,hp,e,st',h=>by cases h;exact StE.refl _ _
 |.ret,st,hp,e,st',h=>by cases h;exact StE.refl _ _
 |.ops l,st,hp,e,st',h=>by
  simp only[ev] at h
  obtain ⟨⟨x,s1⟩,h1,h2⟩:=Option.map_eq_some_iff.1 h
  have:=zhc hc l [] st hp h1
  cases x<;>(cases h2;exact this)
 |.draw l,st,hp,e,st',h=>by
  simp only[ev] at h
  obtain ⟨⟨x,s1⟩,h1,h2⟩:=Option.map_eq_some_iff.1 h
  have:=zhc hc l [] st hp h1
  cases x with
  |none=>cases h2;exact this
  |some v=>cases h2;exact this.trans (StE.same_hp rfl rfl)
 |.seq a b,st,hp,e,st',h=>by
  simp only[ev] at h
  cases h1:ev C call pin rd a st with
  |none=>rw[h1] at h;cases h
  |some r=>
   obtain ⟨e1,s1⟩:=r
   have h2:=ev_ste hC hc a st hp h1
   rw[h1] at h
   cases e1 with
   |normal=>exact h2.trans (ev_ste hC hc b s1 (Nat.le_trans hp h2.len) h)
   |exit i=>cases h;exact h2
   |ret=>cases h;exact h2
   |panic v=>cases h;exact h2
 |.cond c a b,st,hp,e,st',h=>by
  simp only[ev] at h
  split at h
  ·rename_i t _
   cases t with
   |true=>exact ev_ste hC hc a st hp h
   |false=>exact ev_ste hC hc b st hp h
  ·cases h
 |.block id c,st,hp,e,st',h=>by
  simp only[ev] at h
  cases h1:ev C call pin rd c st with
  |none=>rw[h1] at h;cases h
  |some r=>
   obtain ⟨e1,s1⟩:=r
   have h2:=ev_ste hC hc c st hp h1
   rw[h1] at h
   cases e1 with
   |normal=>cases h;exact h2
   |exit i=>
    simp only at h
    split at h<;>(cases h;exact h2)
   |ret=>cases h;exact h2
   |panic v=>cases h;exact h2
 |.loop live c,st,hp,e,st',h=>by
  simp only[ev] at h
  exact zkh (fun st hp _ _ h=>ev_ste hC hc c st hp h) (fun st=>by rw[zdj hC];exact ⟨rfl,rfl⟩) _ st hp h
 |.rangeF g ps as bd,st,hp,e,st',h=>by
  simp only[ev] at h
  split at h
  ·rename_i gf first captured _
   have key : ∀ (d : Nat) (hp0 : List AB) (df : List ADef), HE st.hp hp0 [] → (match call (.fn (.func gf) first captured) [.yield hp0.length] (hp0 ++ [.loop ⟨.ready, none, st.tm, ps, as, bd, d⟩]) with
     | some (.ret _, hp', tc) => (match hp'[hp0.length]? with
      |some (.loop r)=>if r.st=.busy then none else some (r.pend.getD .normal,{ st with df:=df,hp:=hp'.set hp0.length .dead,tc:=tc.filter (·<pin)++st.tc })
      |_=>none)
     |some (.pan v,hp',tc)=>some (.panic v,{ st with df:=df,hp:=hp',tc:=tc.filter (·<pin)++st.tc })
     |none=>none)=some (e,st')→StE pin st st':=by
    intro d hp0 df he h
    cases h1:call (.fn (.func gf) first captured) [.yield hp0.length] (hp0++[.loop ⟨.ready,none,st.tm,ps,as,bd,d⟩]) with
    |none=>rw[h1] at h;cases h
    |some r=>
     obtain ⟨x,hp',tc⟩:=r
     have h2:=hc _ _ _ _ _ _ h1
     have h3:∀ j,j<st.hp.length→j∉tc→hp'[j]?=st.hp[j]?:=fun j hj hn=>by
      have:=he.len
      rw[h2.same j (by simp;omega) hn,List.getElem?_append_left (by omega),he.same j hj (by simp)]
     have hl:=h2.len
     have hl0:=he.len
     simp only[List.length_append,List.length_cons,List.length_nil] at hl
     rw[h1] at h
     cases x with
     |ret w=>
      simp only at h
      split at h
      ·split at h
       ·cases h
       ·cases h
        refine ⟨by simp;omega,fun j hj=>List.mem_append_right _ hj,fun j hj hn=>?_⟩
        rw[List.getElem?_set_ne (by omega)]
        refine h3 j (by omega) fun q=>hn ?_
        exact List.mem_append_left _ (List.mem_filter.2 ⟨q,by simpa using hj⟩)
      ·cases h
     |pan v=>
      cases h
      refine ⟨by simp only;omega,fun j hj=>List.mem_append_right _ hj,fun j hj hn=>?_⟩
      refine h3 j (by omega) fun q=>hn ?_
      exact List.mem_append_left _ (List.mem_filter.2 ⟨q,by simpa using hj⟩)
   cases rd with
   |none=>exact key _ _ _ (HE.app _ _ _) h
   |some l=>
    simp only at h
    split at h
    ·rename_i hd
     split at hd
     ·cases hd;exact key _ _ _ (HE.refl _ _) h
     ·cases hd
    ·cases h
  ·cases h
theorem zjg {C:Cfg}(_hC:C.calm=true)(hw:∀ f,C.whole f=true):∀ n,CallHE (Ev.call C n)
 |0=>fun f args H x H' tc h=>by cases h
 |n+1=>fun f args H x H' tc h=>by
  have over:∀ (hp:List AB) (tc:List Nat),HE H (overH H hp tc++hp.drop H.length) tc:=by
   intro hp tc
   refine ⟨by simp[zbi],fun j hj hn=>?_⟩
   rw[List.getElem?_append_left (by rw[zbi];exact hj)]
   clear h
   induction tc with
   |nil=>rfl
   |cons k tc ih=>
    simp only[List.mem_cons,not_or] at hn
    rw[zpw,List.getElem?_set_ne (by omega)]
    exact ih hn.2
  simp only[Ev.call] at h
  split at h
  ·unfold enter at h
   split at h
   ·obtain ⟨v,_,h2⟩:=Option.map_eq_some_iff.1 h
    cases h2;exact HE.refl _ _
   ·split at h
    ·obtain ⟨v,_,h2⟩:=Option.map_eq_some_iff.1 h
     cases h2;exact HE.refl _ _
    ·split at h
     ·cases h
     ·rw[hw,cond_true] at h
      split at h
      ·split at h
       ·simp only[cond_eq_ite] at h
        split at h
        ·cases h;exact HE.refl _ _
        ·cases h;exact over _ _
       ·cases h
      ·cases h
  ·unfold round at h
   split at h
   ·split at h
    ·split at h
     ·split at h
      ·split at h
       ·split at h
        ·split at h
         ·cases h
         ·cases h;exact over _ _
         ·cases h
        ·cases h
       ·cases h
      ·cases h
     ·cases h
    ·cases h
   ·cases h
  ·cases h
theorem HE.kp {H H':List AB}{tc:List Nat}(h:HE H H' tc):Kp tc H H':=⟨h.len,h.same⟩
theorem zje {C:Cfg}(hC:C.calm=true){call:CallF}(hc:CallHE call){pin:Nat}{rd:Option Nat}{c:AC}{st:St}(hp:pin≤st.hp.length){Q:AExit→St→Prop}(h:Does (ev C call pin rd c st) Q):Does (ev C call pin rd c st) fun e st'=>StE pin st st'∧Q e st':=by
 obtain ⟨e,st',h1,h2⟩:=h
 exact ⟨e,st',h1,ev_ste hC hc c st hp h1,h2⟩
theorem zgj {C:Cfg}{pin:Nat}:∀ (l:List ADef) (p:Option AV) (st:St),pin≤st.hp.length→∀ {r:Option AV} {st':St},runDefs C pin l p st=some (r,st')→StE pin st st'
 |[],p,st,hp,r,st',h=>by cases h;exact StE.refl _ _
 |.mark d::l,p,st,hp,r,st',h=>by
  simp only[runDefs] at h
  split at h
  ·refine StE.trans (StE.of hp (HE.set1 st.hp d .dead) rfl rfl) (zgj l _ _ ?_ h)
   simpa using hp
  ·cases h
 |.call f args::l,p,st,hp,r,st',h=>by
  simp only[runDefs] at h
  split at h
  ·split at h
   ·exact zgj l _ st hp h
   ·split at h
    ·split at h
     ·refine StE.trans (StE.of hp (HE.set1 st.hp _ _) rfl rfl) (zgj l _ _ ?_ h)
      simpa using hp
     ·cases h
    ·cases h
   ·cases h
  ·cases h
theorem zju {C:Cfg}{n f:Nat}{fn:AFunc}{first captured args:List AV}{H:List AB}{Q:AV→List AB→List Nat→Prop}(hc:C.calm=true)(hwh:∀ f,C.whole f=true)(hx:C.ext f=none)(hxh:C.exth f=none)(hf:C.fns f=some fn)
  (hlen:(first++args++captured).length≤fn.ntmps)
  (h:Does (ev C (Ev.call C n) H.length none fn.body { tm:=tmA fn.ntmps (zipI 0 (first++args++captured) []),df:=[],hp:=H,tc:=[] }) (Ends C H.length fn.res Q)):
  ∃ v hp tc H',Ev.call C (n+1) (.fn (.func f) first captured) args H=some (.ret v,H',tc)∧Q v hp tc∧Kp tc H hp∧Kp tc H H'∧(refs v≠[]∨tc≠[]→H'=hp)∧(refs v=[]→tc=[]→H'=H):=by
 have h2:Does (ev C (Ev.call C n) H.length none fn.body { tm:=tmA fn.ntmps (zipI 0 (first++args++captured) []),df:=[],hp:=H,tc:=[] }) (Ends C H.length fn.res fun v hp tc=>Q v hp tc∧Kp tc H hp):=by
  refine Does.mono (zje hc (zjg hc hwh n) ?_ h) ?_
  ·exact Nat.le_refl _
  rintro e st ⟨k,h1,st',h2,h3,v,h4,h5⟩
  have k2:=zgj _ _ st (show H.length≤st.hp.length from k.len) h2
  refine ⟨h1,st',h2,h3,v,h4,h5,Nat.le_trans k.len k2.len,fun b hb ht=>?_⟩
  exact (k.trans k2).same b hb ht
 obtain ⟨v,hp,tc,H',c1,⟨c2,c3⟩,c5,c6,c7⟩:=zbm hc hx hxh hf (hwh f) hlen h2
 exact ⟨v,hp,tc,H',c1,c2,c3,c5.kp,fun hn=>lft_eq c5 c3 c6 hn,c7⟩
structure RTo (l:Nat) (rz:ALoop) (T S W:List Nat) (Y:List AB→Prop) (n:Nat) (J:List Nat→List AB→Prop) (E:AExit→List AB→Prop) (M M':Nat→Prop) (e:AExit) (st:St):Prop where
 p:∀ v,e≠.panic v
 here:st.hp[l]?=some (.loop rz)
 t:∀ j∈st.tc,j=l∨j∈T∨j∈S∨j∈W
 y:Y st.hp
 n:e=.normal→∃ W',(∀ j∈W',j∈W∨n≤j)∧J W' st.hp
 e:e≠.normal→E e st.hp
 m:∀ j,j<l+1→M' j→M j∨j∈st.tc
structure RToV (l:Nat) (rz:ALoop) (T S W Rv:List Nat) (Y:List AB→Prop) (n:Nat) (J:List Nat→List AB→Prop) (E:AExit→List AB→Prop) (M M':Nat→Prop) (e:AExit) (st:St):Prop where
 p:∀ v,e≠.panic v
 here:st.hp[l]?=some (.loop rz)
 t:∀ j∈st.tc,j=l∨j∈T∨j∈S∨j∈W
 y:Y st.hp
 n:e=.normal→∃ W',(∀ j∈W',j∈W∨n≤j∨j∈Rv)∧J W' st.hp
 e:e≠.normal→E e st.hp
 m:∀ j,j<l+1→M' j→M j∨j∈st.tc
theorem RTo.v {l:Nat}{rz:ALoop}{T S W:List Nat}{Y:List AB→Prop}{n:Nat}{J:List Nat→List AB→Prop}{E:AExit→List AB→Prop}{M M':Nat→Prop}{e:AExit}{st:St}(h:RTo l rz T S W Y n J E M M' e st):RToV l rz T S W [] Y n J E M M' e st:=
 ⟨h.p,h.here,h.t,h.y,fun hn=>by obtain ⟨W',w1,w2⟩:=h.n hn;exact ⟨W',fun j hj=>(w1 j hj).imp id .inl,w2⟩,h.e,h.m⟩
theorem ybx {α:Type}{C:Cfg}(hC:C.calm=true)(hwh:∀ f,C.whole f=true){n m gf:Nat}{first captured:List AV}{arg:α→AV→List AB→Prop}{R:AV→List Nat}{B:Prop}{L:List α}{S:List Nat}{Y:List AB→Prop}{pre:List AB→List Nat→Prop}(hI:IterV C (n+1) m gf first captured arg R B L S Y pre)
  {pin:Nat} {st:St} {g:Opnd} {ps:List Nat} {as bd:AC} {Q:AExit→St→Prop} (hg:val C st.tm g=.fn (.func gf) first captured) (hps:ps.length=1) (T:List Nat) (hT:∀ j∈T,j<st.hp.length) (hS:∀ j∈S,j<st.hp.length)
  (J:List α→List Nat→List AB→Prop) (E:AExit→List α→List AB→Prop) (M:List α→Nat→Prop) (hM:∀ j,¬ M [] j) (hB:B→∀ d W G,J d W G→∀ j∈W,j<G.length)
  (hpre:∀ r:ALoop,pre (st.hp++[.dfr,.loop r]) ((st.hp.length+1)::(T++S)))
  (hYs:∀ G G',Y G→(∀ j,j<st.hp.length+2→j≠st.hp.length+1→G'[j]?=G[j]?)→Y G')
  (hJ0:∀ r:ALoop,J [] [] (st.hp++[.dfr,.loop r])) (hY0:∀ r:ALoop,Y (st.hp++[.dfr,.loop r]))
  (hJs:∀ d W G G',J d W G→(∀ j∈W,st.hp.length+2≤j)→(∀ j,j<G.length→j<st.hp.length+2∨j∈W→j∉S→j≠st.hp.length+1→G'[j]?=G[j]?)→J d W G')
  (hEs:∀ e d G G',E e d G→(∀ j,j<st.hp.length+2→j≠st.hp.length+1→G'[j]?=G[j]?)→E e d G')
  (hround : ∀ d s W G rz v, arg s v G → (∀ j ∈ R v, st.hp.length + 2 ≤ j) → d ++ [s] <+: L → J d W G → Y G → Kp (S ++ T) st.hp G → st.hp.length + 2 ≤ G.length → (∀ j ∈ W, st.hp.length + 2 ≤ j) →
   Does (ev C (Ev.call C n) G.length (some (st.hp.length+1)) as { tm:=setParams st.tm ps [v],df:=[],hp:=G,tc:=[] }) fun e st1=>e=.normal∧st1.hp[st.hp.length+1]?=G[st.hp.length+1]? ∧
    Does (ev C (Ev.call C n) G.length (some (st.hp.length+1)) bd { st1 with hp:=st1.hp.set (st.hp.length+1) (.loop rz),tc:=(st.hp.length+1)::st1.tc }) (RToV (st.hp.length+1) rz T S W (R v) Y G.length (J (d++[s])) (fun e=>E e (d++[s])) (M d) (M (d++[s]))))
  (hQ:∀ H' tc W,(∀ j∈tc,j<st.hp.length→j∈S++T)→Kp tc st.hp H'→Y H'→H'[st.hp.length]?=some .dfr→st.hp.length+2≤H'.length→(∀ j∈W,st.hp.length+2≤j)→J L W H'→(∀ j,j<st.hp.length→M L j→j∈tc)→Q .normal { st with df:=.mark st.hp.length::st.df,hp:=H',tc:=tc.filter (·<pin)++st.tc })
  (hE:∀ e d H' tc,e≠.normal→(∀ j∈tc,j<st.hp.length→j∈S++T)→Kp tc st.hp H'→Y H'→H'[st.hp.length]?=some .dfr→st.hp.length+2≤H'.length→d <+: L→E e d H'→(∀ j,j<st.hp.length→M d j→j∈tc)→Q e { st with df:=.mark st.hp.length::st.df,hp:=H',tc:=tc.filter (·<pin)++st.tc }):
  Does (ev C (Ev.call C m) pin none (.rangeF g ps as bd) st) Q:=by
 have hcall:=zjg hC hwh n
 refine yfq hC hI hg hps T hT hS (fun d W G=>J d W G∧∀ b,b<st.hp.length→b∉S++T→G[b]?=st.hp[b]?) E M hM (fun hb d W G h=>hB hb d W G h.1) hpre hYs (fun r=>⟨hJ0 r,fun b hb _=>?_⟩) hY0 (fun d W G G' h hw k=>⟨hJs d W G G' h.1 hw k,fun b hb hs=>?_⟩) hEs ?_ (fun H' tc W h1 h2 h3 h4 h5 h6 h7 h8=>hQ H' tc W h1 h2 h3 h4 h5 h6 h7.1 h8) hE
 ·rw[List.getElem?_append_left hb]
 ·rw[← h.2 b hb hs]
  have hg:=h.2 b hb hs
  rw[List.getElem?_eq_getElem hb] at hg
  exact k b (get_lt hg) (.inl (by omega)) (fun hh=>hs (List.mem_append_left _ hh)) (by omega)
 ·rintro d s W G rz v hv hrv hpr ⟨h1,h2⟩ h3 h4 h5
  have hK:Kp (S++T) st.hp G:=⟨by omega,h2⟩
  have hr:=hround d s W G rz v hv hrv hpr h1 h3 hK h4 h5
  refine (zje hC hcall (by simp only;exact Nat.le_refl _) hr).mono ?_
  rintro e st1 ⟨k1,g1,g2,g3⟩
  have l1:G.length≤st1.hp.length:=k1.len
  refine ⟨g1,g2,(zje hC hcall (by simp only[List.length_set];exact l1) g3).mono ?_⟩
  rintro e2 st2 ⟨k2,q⟩
  have l2:G.length≤st2.hp.length:=Nat.le_trans l1 (by simpa using k2.len)
  have kk : Kp st2.tc G st2.hp := ⟨l2, fun b hb ht => by
   have hl:st.hp.length+1∈st2.tc:=k2.tc _ (by simp)
   have hne:st.hp.length+1≠b:=fun e=>ht (e ▸ hl)
   rw[k2.same b hb ht]
   simp only
   rw[List.getElem?_set_ne hne]
   exact k1.same b hb fun hh=>ht (k2.tc _ (List.mem_cons_of_mem _ hh))⟩
  refine ⟨q.p,q.here,l2,q.t,kk,q.y,fun hn=>?_,q.e,q.m⟩
  obtain ⟨W',w1,w2⟩:=q.n hn
  refine ⟨W',w1,w2,fun b hb hs=>?_⟩
  rw[kk.get b (by omega) fun ht=>?_,h2 b hb hs]
  rcases q.t b ht with h|h|h|h
  ·omega
  ·exact hs (List.mem_append_right _ h)
  ·exact hs (List.mem_append_left _ h)
  ·have:=h5 b h;omega
theorem zhf {α:Type}{C:Cfg}(hC:C.calm=true)(hwh:∀ f,C.whole f=true){n m gf:Nat}{first captured:List AV}{arg:α→AV}{L:List α}{S:List Nat}{Y:List AB→Prop}{pre:List AB→List Nat→Prop}(hI:IterG C (n+1) m gf first captured arg L S Y pre)
  {pin:Nat} {st:St} {g:Opnd} {ps:List Nat} {as bd:AC} {Q:AExit→St→Prop} (hg:val C st.tm g=.fn (.func gf) first captured) (hps:ps.length=1) (T:List Nat) (hT:∀ j∈T,j<st.hp.length) (hS:∀ j∈S,j<st.hp.length)
  (J:List α→List Nat→List AB→Prop) (E:AExit→List α→List AB→Prop) (M:List α→Nat→Prop) (hM:∀ j,¬ M [] j)
  (hpre:∀ r:ALoop,pre (st.hp++[.dfr,.loop r]) ((st.hp.length+1)::(T++S)))
  (hYs:∀ G G',Y G→(∀ j,j<st.hp.length+2→j≠st.hp.length+1→G'[j]?=G[j]?)→Y G')
  (hJ0:∀ r:ALoop,J [] [] (st.hp++[.dfr,.loop r])) (hY0:∀ r:ALoop,Y (st.hp++[.dfr,.loop r]))
  (hJs:∀ d W G G',J d W G→(∀ j∈W,st.hp.length+2≤j)→(∀ j,j<G.length→j<st.hp.length+2∨j∈W→j∉S→j≠st.hp.length+1→G'[j]?=G[j]?)→J d W G')
  (hEs:∀ e d G G',E e d G→(∀ j,j<st.hp.length+2→j≠st.hp.length+1→G'[j]?=G[j]?)→E e d G')
  (hround : ∀ d s W G rz, d ++ [s] <+: L → J d W G → Y G → Kp (S ++ T) st.hp G → st.hp.length + 2 ≤ G.length → (∀ j ∈ W, st.hp.length + 2 ≤ j) →
   Does (ev C (Ev.call C n) G.length (some (st.hp.length+1)) as { tm:=setParams st.tm ps [arg s],df:=[],hp:=G,tc:=[] }) fun e st1=>e=.normal∧st1.hp[st.hp.length+1]?=G[st.hp.length+1]? ∧
    Does (ev C (Ev.call C n) G.length (some (st.hp.length+1)) bd { st1 with hp:=st1.hp.set (st.hp.length+1) (.loop rz),tc:=(st.hp.length+1)::st1.tc }) (RTo (st.hp.length+1) rz T S W Y G.length (J (d++[s])) (fun e=>E e (d++[s])) (M d) (M (d++[s]))))
  (hQ:∀ H' tc W,(∀ j∈tc,j<st.hp.length→j∈S++T)→Kp tc st.hp H'→Y H'→H'[st.hp.length]?=some .dfr→st.hp.length+2≤H'.length→(∀ j∈W,st.hp.length+2≤j)→J L W H'→(∀ j,j<st.hp.length→M L j→j∈tc)→Q .normal { st with df:=.mark st.hp.length::st.df,hp:=H',tc:=tc.filter (·<pin)++st.tc })
  (hE:∀ e d H' tc,e≠.normal→(∀ j∈tc,j<st.hp.length→j∈S++T)→Kp tc st.hp H'→Y H'→H'[st.hp.length]?=some .dfr→st.hp.length+2≤H'.length→d <+: L→E e d H'→(∀ j,j<st.hp.length→M d j→j∈tc)→Q e { st with df:=.mark st.hp.length::st.df,hp:=H',tc:=tc.filter (·<pin)++st.tc }):
  Does (ev C (Ev.call C m) pin none (.rangeF g ps as bd) st) Q:=
 ybx hC hwh hI.v hg hps T hT hS J E M hM (fun h=>h.elim) hpre hYs hJ0 hY0 hJs hEs (fun d s W G rz v hv _ hpr h1 h2 h3 h4 h5=>by subst hv;exact (hround d s W G rz hpr h1 h2 h3 h4 h5).mono fun e st1 q=>⟨q.1,q.2.1,q.2.2.mono fun _ _ q=>q.v⟩) hQ hE
theorem zbz {α:Type}{C:Cfg}(hC:C.calm=true)(hwh:∀ f,C.whole f=true){n m gf:Nat}{first captured:List AV}{arg:α→AV}{L:List α}{S:List Nat}{Y:List AB→Prop}{pre:List AB→List Nat→Prop}(hI:IterG C (n+1) m gf first captured arg L S Y pre)
  {pin:Nat} {st:St} {g:Opnd} {ps:List Nat} {as bd:AC} {Q:AExit→St→Prop} (hg:val C st.tm g=.fn (.func gf) first captured) (hps:ps.length=1) (T:List Nat) (hT:∀ j∈T,j<st.hp.length) (hS:∀ j∈S,j<st.hp.length)
  (J:List α→List Nat→List AB→Prop) (E:AExit→List α→List AB→Prop)
  (hpre:∀ r:ALoop,pre (st.hp++[.dfr,.loop r]) ((st.hp.length+1)::(T++S)))
  (hYs:∀ G G',Y G→(∀ j,j<st.hp.length+2→j≠st.hp.length+1→G'[j]?=G[j]?)→Y G')
  (hJ0:∀ r:ALoop,J [] [] (st.hp++[.dfr,.loop r])) (hY0:∀ r:ALoop,Y (st.hp++[.dfr,.loop r]))
  (hJs:∀ d W G G',J d W G→(∀ j∈W,st.hp.length+2≤j)→(∀ j,j<G.length→j<st.hp.length+2∨j∈W→j∉S→j≠st.hp.length+1→G'[j]?=G[j]?)→J d W G')
  (hEs:∀ e d G G',E e d G→(∀ j,j<st.hp.length+2→j≠st.hp.length+1→G'[j]?=G[j]?)→E e d G')
  (hround : ∀ d s W G rz, d ++ [s] <+: L → J d W G → Y G → Kp (S ++ T) st.hp G → st.hp.length + 2 ≤ G.length → (∀ j ∈ W, st.hp.length + 2 ≤ j) →
   Does (ev C (Ev.call C n) G.length (some (st.hp.length+1)) as { tm:=setParams st.tm ps [arg s],df:=[],hp:=G,tc:=[] }) fun e st1=>e=.normal∧st1.hp[st.hp.length+1]?=G[st.hp.length+1]? ∧
    Does (ev C (Ev.call C n) G.length (some (st.hp.length+1)) bd { st1 with hp:=st1.hp.set (st.hp.length+1) (.loop rz),tc:=(st.hp.length+1)::st1.tc }) (RTo (st.hp.length+1) rz T S W Y G.length (J (d++[s])) (fun e=>E e (d++[s])) (fun _=>False) (fun _=>False)))
  (hQ:∀ H' tc W,(∀ j∈tc,j<st.hp.length→j∈S++T)→Kp tc st.hp H'→Y H'→H'[st.hp.length]?=some .dfr→st.hp.length+2≤H'.length→(∀ j∈W,st.hp.length+2≤j)→J L W H'→Q .normal { st with df:=.mark st.hp.length::st.df,hp:=H',tc:=tc.filter (·<pin)++st.tc })
  (hE:∀ e d H' tc,e≠.normal→(∀ j∈tc,j<st.hp.length→j∈S++T)→Kp tc st.hp H'→Y H'→H'[st.hp.length]?=some .dfr→st.hp.length+2≤H'.length→d <+: L→E e d H'→Q e { st with df:=.mark st.hp.length::st.df,hp:=H',tc:=tc.filter (·<pin)++st.tc }):
  Does (ev C (Ev.call C m) pin none (.rangeF g ps as bd) st) Q:=
 zhf hC hwh hI hg hps T hT hS J E (fun _ _=>False) (fun _ h=>h) hpre hYs hJ0 hY0 hJs hEs hround (fun H' tc W h1 h2 h3 h4 h5 h6 h7 _=>hQ H' tc W h1 h2 h3 h4 h5 h6 h7) (fun e d H' tc h0 h1 h2 h3 h4 h5 h6 h7 _=>hE e d H' tc h0 h1 h2 h3 h4 h5 h6 h7)
theorem ycd {α:Type}{C:Cfg}(hC:C.calm=true)(hwh:∀ f,C.whole f=true){n m gf:Nat}{first captured:List AV}{arg:α→AV→List AB→Prop}{R:AV→List Nat}{B:Prop}{L:List α}{S:List Nat}{Y:List AB→Prop}{pre:List AB→List Nat→Prop}(hI:IterV C (n+1) m gf first captured arg R B L S Y pre)
  {pin:Nat} {st:St} {g:Opnd} {ps:List Nat} {as bd:AC} {Q:AExit→St→Prop} (hg:val C st.tm g=.fn (.func gf) first captured) (hps:ps.length=1) (T:List Nat) (hT:∀ j∈T,j<st.hp.length) (hS:∀ j∈S,j<st.hp.length)
  (J:List α→List Nat→List AB→Prop) (E:AExit→List α→List AB→Prop) (hB:B→∀ d W G,J d W G→∀ j∈W,j<G.length)
  (hpre:∀ r:ALoop,pre (st.hp++[.dfr,.loop r]) ((st.hp.length+1)::(T++S)))
  (hYs:∀ G G',Y G→(∀ j,j<st.hp.length+2→j≠st.hp.length+1→G'[j]?=G[j]?)→Y G')
  (hJ0:∀ r:ALoop,J [] [] (st.hp++[.dfr,.loop r])) (hY0:∀ r:ALoop,Y (st.hp++[.dfr,.loop r]))
  (hJs:∀ d W G G',J d W G→(∀ j∈W,st.hp.length+2≤j)→(∀ j,j<G.length→j<st.hp.length+2∨j∈W→j∉S→j≠st.hp.length+1→G'[j]?=G[j]?)→J d W G')
  (hEs:∀ e d G G',E e d G→(∀ j,j<st.hp.length+2→j≠st.hp.length+1→G'[j]?=G[j]?)→E e d G')
  (hround : ∀ d s W G rz v, arg s v G → (∀ j ∈ R v, st.hp.length + 2 ≤ j) → d ++ [s] <+: L → J d W G → Y G → Kp (S ++ T) st.hp G → st.hp.length + 2 ≤ G.length → (∀ j ∈ W, st.hp.length + 2 ≤ j) →
   Does (ev C (Ev.call C n) G.length (some (st.hp.length+1)) as { tm:=setParams st.tm ps [v],df:=[],hp:=G,tc:=[] }) fun e st1=>e=.normal∧st1.hp[st.hp.length+1]?=G[st.hp.length+1]? ∧
    Does (ev C (Ev.call C n) G.length (some (st.hp.length+1)) bd { st1 with hp:=st1.hp.set (st.hp.length+1) (.loop rz),tc:=(st.hp.length+1)::st1.tc }) (RToV (st.hp.length+1) rz T S W (R v) Y G.length (J (d++[s])) (fun e=>E e (d++[s])) (fun _=>False) (fun _=>False)))
  (hQ:∀ H' tc W,(∀ j∈tc,j<st.hp.length→j∈S++T)→Kp tc st.hp H'→Y H'→H'[st.hp.length]?=some .dfr→st.hp.length+2≤H'.length→(∀ j∈W,st.hp.length+2≤j)→J L W H'→Q .normal { st with df:=.mark st.hp.length::st.df,hp:=H',tc:=tc.filter (·<pin)++st.tc })
  (hE:∀ e d H' tc,e≠.normal→(∀ j∈tc,j<st.hp.length→j∈S++T)→Kp tc st.hp H'→Y H'→H'[st.hp.length]?=some .dfr→st.hp.length+2≤H'.length→d <+: L→E e d H'→Q e { st with df:=.mark st.hp.length::st.df,hp:=H',tc:=tc.filter (·<pin)++st.tc }):
  Does (ev C (Ev.call C m) pin none (.rangeF g ps as bd) st) Q:=
 ybx hC hwh hI hg hps T hT hS J E (fun _ _=>False) (fun _ h=>h) hB hpre hYs hJ0 hY0 hJs hEs hround (fun H' tc W h1 h2 h3 h4 h5 h6 h7 _=>hQ H' tc W h1 h2 h3 h4 h5 h6 h7) (fun e d H' tc h0 h1 h2 h3 h4 h5 h6 h7 _=>hE e d H' tc h0 h1 h2 h3 h4 h5 h6 h7)
def ItPost2 {α:Type}(H:List AB)(l:Nat)(S T:List Nat)(J:List α→List Nat→List AB→Prop)(E:List α→List AB→Prop)(M:List α→Nat→Prop)(L:List α)(v:AV)(hp:List AB)(tc:List Nat):Prop:=
 v=.tup []∧(∀ j∈tc,j∈S++T)∧((∃ W,(∀ j∈W,H.length≤j)∧J L W hp∧(L=[]∨l∈tc)∧∀ j,j<H.length→M L j→j∈tc)∨∃ d,d <+: L∧E d hp∧l∈tc∧∀ j,j<H.length→M d j→j∈tc)
theorem zqe {α:Type}{C:Cfg}{k n gf:Nat}{fn:AFunc}{first captured:List AV}{arg:α→AV}{L:List α}{S:List Nat}{Y:List AB→Prop}{pre:List AB→List Nat→Prop}(hc:C.calm=true)(hwh:∀ f,C.whole f=true)(hx:C.ext gf=none)(hxh:C.exth gf=none)(hf:C.fns gf=some fn)(hlen:first.length+1+captured.length≤fn.ntmps)
  (h : ∀ (H : List AB) (l : Nat) (T : List Nat) (J : List α → List Nat → List AB → Prop) (E : List α → List AB → Prop) (M : List α → Nat → Prop), pre H T → (∀ j ∈ T, j < H.length) → l ∈ T → J [] [] H → (∀ d W G, J d W G → Y G) → (∀ j, ¬ M [] j) → Yields (Ev.call C k) l H.length T arg L S Y J E M →
   Does (ev C (Ev.call C n) H.length none fn.body { tm:=tmA fn.ntmps (zipI 0 (first++[.yield l]++captured) []),df:=[],hp:=H,tc:=[] })
    (Ends C H.length fn.res (ItPost2 H l S T J E M L))):IterG C k (n+1) gf first captured arg L S Y pre:=by
 intro H l T J E M h1 h2 h3 h4 h5 h7 h6
 obtain ⟨v,hp,tc,H',c1,⟨rfl,c2,c4⟩,c3,c5,c6,c7⟩:=zju (H:=H) (first:=first) (captured:=captured) (args:=[.yield l]) hc hwh hx hxh hf (by simp;omega) (h H l T J E M h1 h2 h3 h4 h5 h7 h6)
 refine ⟨H',tc,c1,c2,c5,?_⟩
 rcases c4 with ⟨W,w1,w2,w3,w4⟩|⟨d,d1,d2,d3,d4⟩
 ·rcases w3 with w3|w3
  ·by_cases ht:tc=[]
   ·rw[c7 rfl ht];subst w3;exact .inl ⟨[],by simp,h4,fun j _ hj=>absurd hj (h7 j)⟩
   ·rw[c6 (.inr ht)];exact .inl ⟨W,w1,w2,w4⟩
  ·rw[c6 (.inr (by intro h;rw[h] at w3;cases w3))];exact .inl ⟨W,w1,w2,w4⟩
 ·rw[c6 (.inr (by intro h;rw[h] at d3;cases d3))];exact .inr ⟨d,d1,d2,d4⟩
theorem yfn {α:Type}{C:Cfg}{k n gf:Nat}{fn:AFunc}{first captured:List AV}{arg:α→AV→List AB→Prop}{R:AV→List Nat}{B:Prop}{L:List α}{S:List Nat}{Y:List AB→Prop}{pre:List AB→List Nat→Prop}(hc:C.calm=true)(hwh:∀ f,C.whole f=true)(hx:C.ext gf=none)(hxh:C.exth gf=none)(hf:C.fns gf=some fn)(hlen:first.length+1+captured.length≤fn.ntmps)
  (h : ∀ (H : List AB) (l : Nat) (T : List Nat) (J : List α → List Nat → List AB → Prop) (E : List α → List AB → Prop) (M : List α → Nat → Prop), pre H T → (∀ j ∈ T, j < H.length) → l ∈ T → J [] [] H → (∀ d W G, J d W G → Y G) → (∀ j, ¬ M [] j) → (B → ∀ d W G, J d W G → ∀ j ∈ W, j < G.length) → YieldsV (Ev.call C k) l H.length T arg R L S Y J E M →
   Does (ev C (Ev.call C n) H.length none fn.body { tm:=tmA fn.ntmps (zipI 0 (first++[.yield l]++captured) []),df:=[],hp:=H,tc:=[] })
    (Ends C H.length fn.res (ItPost2 H l S T J E M L))):IterV C k (n+1) gf first captured arg R B L S Y pre:=by
 intro H l T J E M h1 h2 h3 h4 h5 h7 h8 h6
 obtain ⟨v,hp,tc,H',c1,⟨rfl,c2,c4⟩,c3,c5,c6,c7⟩:=zju (H:=H) (first:=first) (captured:=captured) (args:=[.yield l]) hc hwh hx hxh hf (by simp;omega) (h H l T J E M h1 h2 h3 h4 h5 h7 h8 h6)
 refine ⟨H',tc,c1,c2,c5,?_⟩
 rcases c4 with ⟨W,w1,w2,w3,w4⟩|⟨d,d1,d2,d3,d4⟩
 ·rcases w3 with w3|w3
  ·by_cases ht:tc=[]
   ·rw[c7 rfl ht];subst w3;exact .inl ⟨[],by simp,h4,fun j _ hj=>absurd hj (h7 j)⟩
   ·rw[c6 (.inr ht)];exact .inl ⟨W,w1,w2,w4⟩
  ·rw[c6 (.inr (by intro h;rw[h] at w3;cases w3))];exact .inl ⟨W,w1,w2,w4⟩
 ·rw[c6 (.inr (by intro h;rw[h] at d3;cases d3))];exact .inr ⟨d,d1,d2,d4⟩
namespace K
inductive Gl {α:Type} (f:α→List AV) (k lo:Nat) (G:List AB):List Nat→List α→AV→Prop
 |none:Gl f k lo G [] [] .nils
 |some (b:Nat) (ds:List α):lo≤b→G[b]?=some (.cells (ds.flatMap f))→ds≠[]→Gl f k lo G [b] ds (.sl b 0 ds.length k)
theorem Gl.kp {α:Type}{f:α→List AV}{k lo:Nat}{G G':List AB}{W:List Nat}{ds:List α}{v:AV}(h:Gl f k lo G W ds v){S:List Nat}(kp:Kp S G G')(hs:∀ j∈W,j∉S):Gl f k lo G' W ds v:=by
 cases h with
 |none=>exact .none
 |some b ds h1 h2 h3=>exact .some b ds h1 (kp.at h2 (hs b (by simp))) h3
theorem Gl.same {α:Type}{f:α→List AV}{k lo:Nat}{G G':List AB}{W:List Nat}{ds:List α}{v:AV}(h:Gl f k lo G W ds v)(hs:∀ j∈W,j<G.length→G'[j]?=G[j]?):Gl f k lo G' W ds v:=by
 cases h with
 |none=>exact .none
 |some b ds h1 h2 h3=>exact .some b ds h1 ((hs b (by simp) (get_lt h2)).trans h2) h3
theorem Gl.lt {α:Type}{f:α→List AV}{k lo:Nat}{G:List AB}{W:List Nat}{ds:List α}{v:AV}(h:Gl f k lo G W ds v):∀ j∈W,lo≤j∧j<G.length:=by
 cases h with
 |none=>simp
 |some b ds h1 h2 h3=>intro j hj;simp at hj;subst hj;exact ⟨h1,get_lt h2⟩
theorem zbk {α:Type}(f:α→List AV)(k:Nat)(hf:∀ a,(f a).length=k):∀ ds:List α,(ds.flatMap f).length=ds.length * k
 |[]=>by simp
 |a::ds=>by rw[List.flatMap_cons,List.length_append,zbk f k hf ds,hf,List.length_cons,Nat.succ_mul];omega
theorem zfb {α:Type}(f:α→List AV)(k:Nat)(hf:∀ a,(f a).length=k):∀ (ds:List α) (i:Nat) (d:α),ds[i]?=some d→List.take k (List.drop (i * k) (ds.flatMap f))=f d
 |[],i,d,h=>by simp at h
 |v::ds,0,d,h=>by
  simp at h;subst h
  rw[List.flatMap_cons,Nat.zero_mul,List.drop_zero,List.take_append_of_le_length (by rw[hf];exact Nat.le_refl _),List.take_of_length_le (by rw[hf];exact Nat.le_refl _)]
 |v::ds,i+1,d,h=>by
  have ih:=zfb f k hf ds i d (by simpa using h)
  rw[List.flatMap_cons,show (i+1) * k=(f v).length+i * k by rw[hf,Nat.succ_mul];omega,← List.drop_drop,List.drop_left]
  exact ih
theorem zcg {α:Type}(f:α→List AV)(hf:∀ a,(f a).all AV.plain=true):∀ ds:List α,(ds.flatMap f).all AV.plain=true
 |[]=>rfl
 |a::ds=>by rw[List.flatMap_cons,List.all_append,hf,zcg f hf ds];rfl
theorem zcw {C:Cfg}{n f:Nat}{fn:AFunc}{first captured args:List AV}{H:List AB}{Q:AV→List AB→List Nat→Prop}(hc:C.calm=true)(hwh:∀ f,C.whole f=true)(h0:Has C f fn)
  (hlen:(first++args++captured).length≤fn.ntmps)
  (h:Does (ev C (Ev.call C n) H.length none fn.body { tm:=tmA fn.ntmps (zipI 0 (first++args++captured) []),df:=[],hp:=H,tc:=[] }) (Ends C H.length fn.res Q)):
  ∃ v hp tc H',Ev.call C (n+1) (.fn (.func f) first captured) args H=some (.ret v,H',tc)∧Q v hp tc∧Kp tc H hp∧Kp tc H H'∧(refs v≠[]∨tc≠[]→H'=hp)∧(refs v=[]→tc=[]→H'=H):=zju hc hwh h0.ext h0.exth h0.fns hlen h
end K
namespace Ro
open K
attribute [local simp] ev1 wantG spineK spine float xnew xval xeff zab zae zau zah zai addFl cellsOf pickC alive slLen slFt binI maxA maxK minA minK aeqK aeqS AV.cells spA zad fillA setAt bitsI nat_nn zav AV.plain apart
set_option maxRecDepth 100000
set_option maxHeartbeats 4000000
def FirstC (call:CallF)(r:Rd.Road):Prop:=∀ (H:List AB) (xb mb eb:Nat),Rx r xb mb eb H→∀ q,QOk r q →
 ∃ H' tc,call (.fn (.func 162) [] []) [.ptr xb 0,qA q] H=some (.ret (firstA r q),H',tc)∧(∀ j∈tc,j=mb)∧Kp tc H H'∧Rx r xb mb eb H'
def PartsC (call:CallF):Prop:=∀ (H:List AB) (xb:Nat) (n:Int),call (.fn (.func 161) [] []) [.ptr xb 0,.int .i64 n] H=some (.ret (.fn (.func 174) [] [.ptr H.length 0,.ptr (H.length+1) 0]),H++[.cells [.ptr xb 0],.cells [.int .i64 n]],[])
theorem zpu (C:Cfg)(call:CallF)(H:List AB)(xb:Nat)(n:Int):Wb C call H af161 [.ptr xb 0,.int .i64 n]
  (fun w hp tc=>w=.fn (.func 174) [] [.ptr H.length 0,.ptr (H.length+1) 0]∧hp=H++[.cells [.ptr xb 0],.cells [.int .i64 n]]∧tc=[]):=by
 unfold Wb Wa af161 Zq Zm Zo Zt
 simp only[zipI]
 refine gA ?_
 exact zac (.inl rfl) rfl (by simp) (by simp only[resL,resOf,zaa];simp[*,resV]) ⟨rfl,rfl,rfl⟩
def wayCs (w:Rd.Way):List AV:=[.int .i64 w.part.stiff,.int .i64 w.part.rise,.int .i64 w.part.full,.int .i64 w.first.lo,.int .i64 w.first.hi]
def filtW (r:Rd.Road)(n:Nat)(f:Nat→Int)(looks:Nat)(d:List Rd.Tr):List Rd.Way:=d.filterMap fun p=>if (firstQ r ⟨f,n,p,looks⟩).some then some ⟨p,firstQ r ⟨f,n,p,looks⟩⟩ else none
theorem zvh (r:Rd.Road)(n:Nat)(f:Nat→Int)(looks:Nat):filtW r n f looks (Rd.partsR (r.parts.getD n default))=Rd.waysR r n (lsOf r.events.length f) looks:=rfl
theorem zvi (r:Rd.Road)(n:Nat)(f:Nat→Int)(looks:Nat)(d:List Rd.Tr)(p:Rd.Tr):filtW r n f looks (d++[p])=filtW r n f looks d++(if (firstQ r ⟨f,n,p,looks⟩).some then [⟨p,firstQ r ⟨f,n,p,looks⟩⟩] else []):=by
 unfold filtW
 rw[List.filterMap_append]
 congr 1
 simp only[List.filterMap_cons,List.filterMap_nil]
 split<;>(rename_i h;split at h<;>simp_all)
theorem zvg (r:Rd.Road)(n:Nat)(f:Nat→Int)(looks:Nat)(d:List Rd.Tr):(filtW r n f looks d).length≤d.length:=List.length_filterMap_le _ _
theorem flat_le {α β:Type}(f:α→List β)(k:Nat):∀ (l:List α),(∀ a∈l,(f a).length≤k)→(l.flatMap f).length≤l.length * k
 |[],_=>by simp
 |a::l,h=>by
  have h1:=flat_le f k l fun b hb=>h b (by simp[hb])
  have h2:=h a (by simp)
  simp only[List.flatMap_cons,List.length_append,List.length_cons,Nat.add_mul,Nat.one_mul]
  omega
theorem zjz {r:Rd.Road}(hr:Rd.Fine r){n:Nat}(hn:n<r.parts.length):(Rd.partsR (r.parts.getD n default)).length≤9:=by
 have hp:=hr.part _ (Rd.part_mem hn)
 unfold Rd.partsR
 refine Nat.le_trans (flat_le _ 3 _ fun s _=>?_) ?_
 ·rw[List.length_map,Clm.span_len];omega
 ·rw[Clm.span_len];omega
theorem tr_ok {r:Rd.Road}(hr:Rd.Fine r){n:Nat}(hn:n<r.parts.length){p:Rd.Tr}(hp:p∈Rd.partsR (r.parts.getD n default)):TrOk p:=by
 have:=Rd.tr_fine hr hn hp
 have h2:=hr.part _ (Rd.part_mem hn)
 exact ⟨this.1,this.2.1,this.2.2.1,this.2.2.2.1,by omega,by omega⟩
def WJ (r:Rd.Road)(n:Nat)(f:Nat→Int)(looks o:Nat)(d:List Rd.Tr)(W:List Nat)(G:List AB):Prop:=∃ lv,G[o+4]?=some (.cells [lv])∧Gl wayCs 5 (o+9) G W (filtW r n f looks d) lv
def WaysV (r:Rd.Road)(n:Nat)(f:Nat→Int)(looks lo:Nat)(v:AV)(H:List AB):Prop:=∃ W,Gl wayCs 5 lo H W (Rd.waysR r n (lsOf r.events.length f) looks) v
theorem zru (C:Cfg)(hC:C.calm=true)(hw:∀ f,C.whole f=true)(m:Nat)(r:Rd.Road)(hr:Rd.Fine r)(hP:PartsC (Ev.call C (m+2)))(hI:PartI C (m+1) (m+1) r)(hF:FirstC (Ev.call C m) r)(H:List AB)(xb mb eb:Nat)(hX:Rx r xb mb eb H)(n:Nat)(hn:n<r.parts.length)(f:Nat→Int)(hf:LdOk f)(looks:Nat):
  Does (ev C (Ev.call C (m+2)) H.length none af139.body { tm:=tmA af139.ntmps (zipI 0 [.ptr xb 0,.int .i64 n,.agg (arr10 f),.int .u64 looks] []),df:=[],hp:=H,tc:=[] })
   (Ends C H.length af139.res fun v hp tc=>(∀ j∈tc,j=mb)∧Rx r xb mb eb hp∧WaysV r n f looks H.length v hp):=by
 unfold PartsC at hP
 have hx:=hX.xl
 have hm:=hX.ml
 have he:=hX.el
 unfold af139 Zq Zu Zl Zo Zs Zc Za Zf Zg Zt Zi
 simp only[zipI,arr10]
 refine gA ?_
 have hS:∀ j∈[mb],j<(H++[.cells [.ptr xb 0],.cells [.int .i64 n],.cells (arr10 f),.cells [.int .u64 looks],.cells [.nils],.cells [.ptr xb 0],.cells [.int .i64 n]]:List AB).length:=by simp;omega
 refine zbz hC hw (hI xb mb eb n (H.length+5) (H.length+5+1) hn) (by simp[zab]) rfl [H.length+4] (by simp) (by simp;omega)
  (WJ r n f looks H.length) (fun _ _ _=>False) (fun rz=>⟨by simp,by simp[Nat.add_assoc]⟩) (fun G G' h k=>h.same fun j hj=>k j (by simp;omega) (by simp;omega))
  (fun rz=>⟨.nils,by simp,.none⟩) (fun rz=>(hX.app _).app _) (fun d W G G' ⟨lv,h1,h2⟩ _ k=>?_) (fun _ _ _ _ h _=>h) ?_ ?_ (fun _ _ _ _ _ _ _ _ _ _ _ h=>h.elim)
 ·simp only[List.length_append,List.length_cons,List.length_nil,Nat.zero_add,Nat.add_assoc,Nat.reduceAdd] at k
  exact ⟨lv,(k _ (get_lt h1) (.inl (by omega)) (by simp;omega) (by omega)).trans h1,h2.same fun j hj hl=>k j hl (.inr hj) (by have:=h2.lt j hj;simp;omega) (by have:=h2.lt j hj;omega)⟩
 ·rintro d p W G rz hpr ⟨lv,h4,hG⟩ hY hK hl hW
  simp only[List.length_append,List.length_cons,List.length_nil,Nat.zero_add,Nat.add_assoc,Nat.reduceAdd] at hl hW ⊢
  rw[setP1]
  simp only[trE]
  refine gA ?_
  refine ⟨trivial,?_,?_⟩
  ·rw[List.getElem?_append_left (by omega)]
  obtain ⟨G2,hG2,k1,k2,k3,k4⟩:=zdg (G:=G++[.cells [.int .i64 p.stiff,.int .i64 p.rise,.int .i64 p.full]]) (l:=H.length+8) (.loop rz) (by simp;omega)
  rw[← hG2]
  have j3:∀ {j x},G[j]?=some x→j≠H.length+8→G2[j]?=some x:=fun {j x} hx hj=>by rw[k3 _ hj,List.getElem?_append_left (get_lt hx)];exact hx
  have e0:=j3 (hK.at (b:=H.length) (x:=.cells [.ptr xb 0]) (by simp) (by simp;omega)) (by omega)
  have e1:=j3 (hK.at (b:=H.length+1) (x:=.cells [.int .i64 n]) (by simp) (by simp;omega)) (by omega)
  have e2:=j3 (hK.at (b:=H.length+2) (x:=.cells (arr10 f)) (by simp[arr10]) (by simp;omega)) (by omega)
  have e3:=j3 (hK.at (b:=H.length+3) (x:=.cells [.int .u64 looks]) (by simp) (by simp;omega)) (by omega)
  have e4:=j3 h4 (by omega)
  have e5:G2[G.length]?=some (.cells [.int .i64 p.stiff,.int .i64 p.rise,.int .i64 p.full]):=by rw[k3 _ (by omega)];simp
  have hX2:Rx r xb mb eb G2:=(hY.app _).kp k4 (by simp;omega) (by simp;omega) (by simp;omega)
  have hG2':Gl wayCs 5 (H.length+9) G2 W (filtW r n f looks d) lv:=hG.same fun j hj hl=>by rw[k3 _ (by have:=hG.lt j hj;omega),List.getElem?_append_left hl]
  have hp:p∈Rd.partsR (r.parts.getD n default):=hpr.subset (by simp)
  have hq:QOk r ⟨f,n,p,looks⟩:=⟨hf,hn,tr_ok hr hn hp⟩
  obtain ⟨H3,tc3,c1,c2,c3,c4⟩:=hF G2 xb mb eb hX2 _ hq
  have nt:∀ {j},H.length≤j→j∉tc3:=fun hj ht=>by have:=c2 _ ht;omega
  have hfew:(filtW r n f looks d).length≤9:=by
   refine Nat.le_trans (zvg r n f looks d) ?_
   have:=hpr.length_le
   have:=zjz hr hn
   simp at *;omega
  obtain ⟨x0,x1,x2,x3,x4,x5⟩:=bk' e0
  obtain ⟨y0,y1,y2,y3,y4,y5⟩:=bk' e1
  obtain ⟨z0,z1,z2,z3,z4,z5⟩:=bk' e2
  obtain ⟨w0,w1,w2,w3,w4,w5⟩:=bk' e3
  obtain ⟨v0,v1,v2,v3,v4,v5⟩:=bk' e5
  obtain ⟨u0,u1,u2,u3,u4,u5⟩:=bk' (c3.at e4 (nt (by omega)))
  obtain ⟨s0,s1,s2,s3,s4,s5⟩:=bk' (c3.at e5 (nt (by omega)))
  have hl3:=c3.at k2 (nt (by omega))
  have hG3:Gl wayCs 5 (H.length+9) H3 W (filtW r n f looks d) lv:=hG2'.kp c3 fun j hj=>nt (by have:=hG.lt j hj;omega)
  have hadd:=zvi r n f looks d p
  have hlen3:=c3.len
  have k1':G2.length=G.length+1:=by rw[k1];simp
  have HA:=hideP (And.intro c2 (And.intro c4 (And.intro hl3 (And.intro hG3 (And.intro hadd (And.intro hlen3 (And.intro hW (And.intro hl k1'))))))))
  clear c2 c3 c4 hl3 hadd hlen3 hl k1' hG3 hG2' hG hX2 hq hF hI hP hX hY hK hpr hp e0 e1 e2 e3 e4 e5 h4 k1 k2 k3 k4 j3 hG2 hW hS hf hr
  simp only[qA,firstA,arr10] at *
  generalize hsp:firstQ r ⟨f,n,p,looks⟩=sp at *
  have hb1:1≤bound:=by decide
  have hso':sp.some=decide (sp.lo≤sp.hi):=rfl
  generalize hws:filtW r n f looks d=ws at *
  refine gA ?_
  have tcs:∀ {tc:List Nat},(∀ j∈tc,j=H.length+8∨j=H.length+4∨(∃ b,ws≠[]∧W=[b]∧j=b)∨j∈tc3)→∀ j∈tc,j=H.length+8∨j∈[H.length+4]∨j∈[mb]∨j∈W:=fun {tc} h j hj=>by
   rcases h j hj with h|h|⟨b,_,h1,h2⟩|h
   ·exact .inl h
   ·exact .inr (.inl (by simp[h]))
   ·exact .inr (.inr (.inr (by rw[h1,h2];simp)))
   ·exact .inr (.inr (.inl (by simp[HA.out.1 j h])))
  by_cases hso:sp.lo≤sp.hi
  ·cases HA.out.2.2.2.1 with
   |none=>
    have HT:=hideP @tcs
    clear tcs
    refine gA ?_
    obtain ⟨c2,c4,hl3,hG3,hadd,hlen3,hW,hl,k1'⟩:=HA.out
    obtain ⟨hp',hhp⟩:∃ hp',hp'=H3.set (H.length+4) (.cells [.sl (H3.length+2) 0 1 5])++[.cells [.int .i64 sp.lo,.int .i64 sp.hi],.cells [.int .i64 p.stiff,.int .i64 p.rise,.int .i64 p.full,.int .i64 sp.lo,.int .i64 sp.hi],.cells [.int .i64 p.stiff,.int .i64 p.rise,.int .i64 p.full,.int .i64 sp.lo,.int .i64 sp.hi]]:=⟨_,rfl⟩
    have K3:Kp [H.length+4] H3 hp':=by rw[hhp];exact ((Kp.refl _ H3).set _ _ (by simp)).trans (Kp.app _ _)
    have h2':hp'[H.length+4]?=some (.cells [.sl (H3.length+2) 0 1 5]):=by rw[hhp,List.getElem?_append_left (by simpa using u0),List.getElem?_set_self u0]
    have hnew:hp'[H3.length+2]?=some (.cells [.int .i64 p.stiff,.int .i64 p.rise,.int .i64 p.full,.int .i64 sp.lo,.int .i64 sp.hi]):=by rw[hhp,List.getElem?_append_right (by simp)];simp
    rw[← hhp]
    refine ⟨by simp,K3.at hl3 (by simp),HT.out fun j hj=>?_,c4.kp K3 (by simp;omega) (by simp;omega) (by simp;omega),fun _=>⟨[H3.length+2],by simp;omega,_,h2',?_⟩,fun h=>absurd rfl h,fun _ _ h=>h.elim⟩
    ·simp only[List.mem_append,List.mem_filter,List.mem_singleton,decide_eq_true_eq] at hj
     rcases hj with h|h|h|h
     ·exact .inr (.inl h.1)
     ·omega
     ·exact .inr (.inr (.inr h.1))
     ·exact .inl h
    ·rw[hadd,hso',decide_eq_true hso]
     exact .some (H3.length+2) _ (by omega) hnew (by simp)
   |some b _ g1 g2 g3=>
    have HT:=hideP @tcs
    clear tcs
    have hcl:=zbk wayCs 5 (fun _=>rfl) ws
    have hcp:=zcg wayCs (fun _=>rfl) ws
    obtain ⟨q0,q1,q2,q3,q4,q5⟩:=bk' g2
    have hbb:¬ b=H.length+4:=by omega
    have hb2:ws.length+1≤bound:=by unfold bound;omega
    have HC:=hideP (And.intro g1 (And.intro g2 g3))
    clear g1 g2 g3
    generalize hcs:ws.flatMap wayCs=cs at *
    have HC2:=hideP hcs
    clear hcs
    refine gA ?_
    obtain ⟨g1,g2,g3⟩:=HC.out
    have hcs:=HC2.out
    obtain ⟨c2,c4,hl3,hG3,hadd,hlen3,hW,hl,k1'⟩:=HA.out
    obtain ⟨hp',hhp⟩:∃ hp',hp'=(H3.set b .dead).set (H.length+4) (.cells [.sl (H3.length+2) 0 (ws.length+1) 5])++[.cells [.int .i64 sp.lo,.int .i64 sp.hi],.cells [.int .i64 p.stiff,.int .i64 p.rise,.int .i64 p.full,.int .i64 sp.lo,.int .i64 sp.hi],.cells (cs++[.int .i64 p.stiff,.int .i64 p.rise,.int .i64 p.full,.int .i64 sp.lo,.int .i64 sp.hi])]:=⟨_,rfl⟩
    have K3:Kp [H.length+4,b] H3 hp':=by rw[hhp];exact (((Kp.refl _ H3).set _ _ (by simp)).set _ _ (by simp)).trans (Kp.app _ _)
    have h2':hp'[H.length+4]?=some (.cells [.sl (H3.length+2) 0 (ws.length+1) 5]):=by rw[hhp,List.getElem?_append_left (by simpa using u0),List.getElem?_set_self (by simpa using u0)]
    have hnew:hp'[H3.length+2]?=some (.cells (cs++[.int .i64 p.stiff,.int .i64 p.rise,.int .i64 p.full,.int .i64 sp.lo,.int .i64 sp.hi])):=by rw[hhp,List.getElem?_append_right (by simp)];simp
    rw[← hhp]
    refine ⟨by simp,K3.at hl3 (by simp;omega),HT.out fun j hj=>?_,c4.kp K3 (by simp;omega) (by simp;omega) (by simp;omega),fun _=>⟨[H3.length+2],by simp;omega,_,h2',?_⟩,fun h=>absurd rfl h,fun _ _ h=>h.elim⟩
    ·simp only[List.mem_append,List.mem_filter,List.mem_singleton,decide_eq_true_eq] at hj
     rcases hj with h|h|h|h|h
     ·exact .inr (.inl h.1)
     ·exact .inr (.inr (.inl ⟨b,g3,rfl,h.1⟩))
     ·omega
     ·exact .inr (.inr (.inr h.1))
     ·exact .inl h
    ·rw[hadd,hso',decide_eq_true hso,if_pos rfl]
     have:=Gl.some (f:=wayCs) (k:=5) (lo:=H.length+9) (G:=hp') (H3.length+2) (ws++[⟨p,sp⟩]) (by omega) (by rw[hnew,List.flatMap_append,hcs];simp[wayCs]) (by simp)
     simpa using this
  ·obtain ⟨c2,c4,hl3,hG3,hadd,hlen3,hW,hl,k1'⟩:=HA.out
   have HT:=hideP @tcs
   clear tcs c2 c4 hl3 hG3 hadd hlen3 hl k1'
   refine gA ?_
   obtain ⟨c2,c4,hl3,hG3,hadd,hlen3,hW,hl,k1'⟩:=HA.out
   refine ⟨by simp,(Kp.app (S:=[]) _ _).at hl3 (by simp),HT.out fun j hj=>?_,c4.app _,fun _=>⟨W,fun j h=>.inl h,lv,(Kp.app (S:=[]) _ _).at u1 (by simp),?_⟩,fun h=>absurd rfl h,fun _ _ h=>h.elim⟩
   ·simp only[List.mem_append,List.mem_filter,List.mem_singleton,decide_eq_true_eq] at hj
    rcases hj with h|h|h
    ·omega
    ·exact .inr (.inr (.inr h.1))
    ·exact .inl h
   ·rw[hadd,hso',decide_eq_false hso,if_neg (by simp),List.append_nil]
    exact hG3.kp (Kp.app (S:=[]) _ _) (by simp)
 ·rintro H' tc W h1 h2 h3 h4 h5 h6 ⟨lv,h7,h8⟩
  rw[zvh] at h8
  simp only[List.length_append,List.length_cons,List.length_nil,Nat.zero_add,Nat.add_assoc,Nat.reduceAdd] at h1 h4 h5 h6 ⊢
  have hd:=bk' h4
  obtain ⟨f0,f1,f2,f3,f4,f5⟩:=bk' h7
  have hlv:lv=.nils∨∃ b k,lv=.sl b 0 k 5:=by
   generalize Rd.waysR r n (lsOf r.events.length f) looks=ws at h8
   cases h8 with
   |none=>exact .inl rfl
   |some b ws q1 q2 q3=>exact .inr ⟨b,_,rfl⟩
  have HH:=hideP (And.intro h1 (And.intro h2 (And.intro h3 (And.intro h6 (And.intro h8 h5)))))
  clear h1 h2 h3 h6 h8 h4 h5 h7 hP hI hF hX hf hS
  simp only[OutB,Then]
  have fin:∀ G' tms,G'=H'.set (H.length+4) (.cells [lv])→(tmA 34 tms).getD 8 .unk=.ptr (H.length+4) 0→∀ tc',(∀ j∈tc',j∈tc.filter (·<H.length))→Ends C H.length [ARes.cell 8 none] (fun v hp tc=>(∀ j∈tc,j=mb)∧Rx r xb mb eb hp∧WaysV r n f looks H.length v hp) AExit.ret { tm:=tmA 34 tms,df:=[.mark (H.length+7)],hp:=G',tc:=tc' }:=by
   rintro G' tms rfl ht tc' htc
   obtain ⟨h1,h2,h3,h6,h8,h5⟩:=HH.out
   refine zbn (v:=lv) (.inl rfl) rfl (by simp only;rw[List.getElem?_set_ne (by omega)];exact hd.get) (by omega) (by simp;omega) ?_ ⟨fun j hj=>?_,?_,W,?_⟩
   ·simp only[resL,resOf,ht]
    rw[List.getElem?_set_ne (by omega),List.getElem?_set_self f0]
    simp[pickC,resV]
   ·obtain ⟨g1,g2⟩:=List.mem_filter.1 (htc j hj)
    have g2:j<H.length:=by simpa using g2
    have:=h1 j g1 (by omega)
    simp at this
    omega
   ·exact h3.kp (((Kp.refl [H.length+4,H.length+7] H').set _ _ (by simp)).set _ _ (by simp)) (by simp;omega) (by simp;omega) (by simp;omega)
   ·have:=(h8.kp (((Kp.refl [H.length+4,H.length+7] H').set (H.length+4) (.cells [lv]) (by simp)).set (H.length+7) .dead (by simp)) (fun j hj=>by have:=h8.lt j hj;simp;omega))
    generalize Rd.waysR r n (lsOf r.events.length f) looks=ws at this ⊢
    cases this with
    |none=>exact .none
    |some b ws q1 q2 q3=>exact .some b _ (by omega) q2 q3
  have HF:=hideP fin
  clear fin HH
  rcases hlv with rfl|⟨b,k,rfl⟩
  ·(refine gA ?_)
   refine HF.out _ _ rfl (by rfl) _ ?_
   simp
  ·(refine gA ?_)
   refine HF.out _ _ rfl (by rfl) _ ?_
   simp
end Ro
end Ev
end Go.Proofs.YtfpepkbflnendaaGreat
