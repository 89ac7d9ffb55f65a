/- Package clamp, gone through: the sizes of a clamp, yielded. -/
import Derived.CallsIn
import Derived.Test.YtimgnlellflciaaGreatCsPA
/- Clamps, plainly: what package clamp computes. No program in sight. -/
namespace Go.Proofs.YtimgnlellflciaaGreat
open Go
namespace Clm
structure Sp where
  lo:Int
  hi:Int
  deriving DecidableEq,Inhabited
structure Pl where
  long:Sp
  wide:Sp
  high:Sp
  deriving DecidableEq,Inhabited
structure Evt where
  kind:Int
  clamp:Int
  sods:Sp
  deriving DecidableEq,Inhabited
structure Cl where
  piles:List Pl
  pack:Sp
  events:List Evt
def Sp.no:Sp:=⟨1,0⟩
def Sp.some (k:Sp):Bool:=decide (k.lo≤k.hi)
def Sp.both (k o:Sp):Sp:=if max k.lo o.lo > min k.hi o.hi then Sp.no else ⟨max k.lo o.lo,min k.hi o.hi⟩
def Sp.either (k o:Sp):Sp:=⟨min k.lo o.lo,max k.hi o.hi⟩
inductive Bf where
  |nil
  |sale (s:Sp)
  |count (s:Sp)
def Bf.after:Bf→Sp→Sp
  |.nil,k=>k
  |.sale s,k=>if k.some=false∨k.hi<s.lo then Sp.no else ⟨max 0 (k.lo - s.hi),k.hi - s.lo⟩
  |.count s,k=>k.both s
def Bf.before:Bf→Sp→Sp
  |.nil,k=>k
  |.sale s,k=>if k.some=false then Sp.no else ⟨k.lo+s.lo,k.hi+s.hi⟩
  |.count s,k=>k.both s
def logs:List Bf→Sp→List Sp
  |[],k=>[k]
  |e::l,k=>k.both (e.before ((logs l (e.after k)).headD Sp.no))::logs l (e.after k)
def Goes:List Bf→Int→Int→Prop
  |[],x,y=>y=x
  |.nil::l,x,y=>Goes l x y
  |.sale s::l,x,y=>∃ k,s.lo≤k∧k≤s.hi∧k≤x∧Goes l (x - k) y
  |.count s::l,x,y=>s.lo≤x∧x≤s.hi∧Goes l x y
def Sp.has (k:Sp)(x:Int):Prop:=k.lo≤x∧x≤k.hi
def Bf.fine:Bf→Prop
  |.sale s=>0≤s.lo∧s.lo≤s.hi
  |_=>True
theorem has_no (x:Int):¬ Sp.no.has x:=by simp only[Sp.has,Sp.no];omega
theorem zfr (k:Sp):k.some=true↔k.lo≤k.hi:=by simp[Sp.some]
theorem zhs (k:Sp):k.some=true↔∃ x,k.has x:=by
  rw[zfr];exact ⟨fun h=>⟨k.lo,by simp[Sp.has];omega⟩,fun ⟨x,h⟩=>by simp only[Sp.has] at h;omega⟩
theorem zhw (k o:Sp)(x:Int):(k.both o).has x↔k.has x∧o.has x:=by
  unfold Sp.both
  split
  · simp only[Sp.has,Sp.no];omega
  · simp only[Sp.has];omega
theorem zio (e:Bf)(h:e.fine)(k:Sp)(_hk:0≤k.lo)(y:Int):(e.after k).has y↔∃ x,k.has x∧Goes [e] x y:=by
  cases e with
  |nil=>simp[Bf.after,Goes]
  |count s=>
    simp only[Bf.after,zhw,Goes]
    simp only[Sp.has]
    exact ⟨fun h=>⟨y,h.1,h.2.1,h.2.2,rfl⟩,fun ⟨x,h1,h2,h3,h4⟩=>by subst h4;exact ⟨h1,h2,h3⟩⟩
  |sale s=>
    simp only[Bf.fine] at h
    simp only[Bf.after,Goes]
    by_cases hn:k.some=false∨k.hi<s.lo
    · rw[if_pos hn]
      simp only[Sp.some,decide_eq_false_iff_not] at hn
      simp only[Sp.has,Sp.no]
      constructor
      · omega
      · rintro ⟨x,h1,k',h2,h3,h4,rfl⟩;omega
    · rw[if_neg hn]
      simp only[Sp.some,decide_eq_false_iff_not] at hn
      simp only[Sp.has]
      constructor
      · intro hy
        by_cases hc:y+s.lo<k.lo
        · exact ⟨k.lo,by omega,k.lo - y,by omega,by omega,by omega,by omega⟩
        · exact ⟨y+s.lo,by omega,s.lo,by omega,by omega,by omega,by omega⟩
      · rintro ⟨x,h1,k',h2,h3,h4,rfl⟩;omega
theorem zff (e:Bf)(k:Sp)(hk:0≤k.lo):0≤(e.after k).lo:=by
  cases e with
  |nil=>exact hk
  |count s=>unfold Bf.after Sp.both;simp only;split<;>simp only[Sp.no]<;>omega
  |sale s=>unfold Bf.after;simp only;split<;>simp only[Sp.no]<;>omega
theorem zmv (e:Bf)(l:List Bf)(x y:Int):Goes (e::l) x y↔∃ z,Goes [e] x z∧Goes l z y:=by
  cases e with
  |nil=>simp[Goes]
  |count s=>simp only[Goes];exact ⟨fun h=>⟨x,⟨h.1,h.2.1,rfl⟩,h.2.2⟩,fun ⟨z,⟨h1,h2,h3⟩,h4⟩=>by subst h3;exact ⟨h1,h2,h4⟩⟩
  |sale s=>
    simp only[Goes]
    exact ⟨fun ⟨k,h1,h2,h3,h4⟩=>⟨x - k,⟨k,h1,h2,h3,rfl⟩,h4⟩,fun ⟨z,⟨k,h1,h2,h3,e⟩,h4⟩=>by subst e;exact ⟨k,h1,h2,h3,h4⟩⟩
theorem zss (e:Bf)(h:e.fine)(o:Sp)(x:Int)(_ho:0≤o.lo):(e.before o).has x↔(match e with|.sale s=>o.some=true∧o.lo+s.lo≤x∧x≤o.hi+s.hi|.count s=>o.has x∧s.has x|.nil=>o.has x):=by
  cases e with
  |nil=>rfl
  |count s=>exact zhw ..
  |sale s=>
    simp only[Bf.before]
    split
    · rename_i hn;simp only[hn,Bool.false_eq_true,false_and,iff_false];exact has_no x
    · rename_i hn;rw[Bool.not_eq_false] at hn;simp only[hn,true_and,Sp.has]
theorem zmo:∀ (l:List Bf) (k:Sp),(∀ e∈l,e.fine)→0≤k.lo →
    0≤((logs l k).headD Sp.no).lo∧(∀ x,((logs l k).headD Sp.no).has x↔k.has x∧∃ y,Goes l x y)
  |[],k,_,hk=>by
    simp only[logs,List.headD_cons,Goes]
    exact ⟨hk,fun x=>⟨fun h=>⟨h,x,rfl⟩,fun h=>h.1⟩⟩
  |e::l,k,hf,hk=>by
    have he:=hf e (by simp)
    obtain ⟨ih0,ih⟩:=zmo l (e.after k) (fun e h=>hf e (by simp[h])) (zff e k hk)
    simp only[logs,List.headD_cons]
    generalize (logs l (e.after k)).headD Sp.no=o at ih0 ih ⊢
    refine ⟨?_,fun x=>?_⟩
    · unfold Sp.both;split<;>simp only[Sp.no]<;>omega
    · rw[zhw,zss e he o x ih0]
      refine and_congr_right fun hx=>?_
      cases e with
      |nil=>simp only[ih,Bf.after,Goes];exact ⟨fun h=>h.2,fun h=>⟨hx,h⟩⟩
      |count s=>
        simp only[ih,Bf.after,zhw,Goes]
        exact ⟨fun ⟨⟨_,y,h⟩,h2⟩=>⟨y,h2.1,h2.2,h⟩,fun ⟨y,h1,h2,h3⟩=>⟨⟨⟨hx,h1,h2⟩,y,h3⟩,h1,h2⟩⟩
      |sale s=>
        simp only
        constructor
        · rintro ⟨h1,h2,h3⟩
          rw[zfr] at h1
          simp only[Bf.fine] at he
          have hz:∃ z,o.has z∧s.lo≤x - z∧x - z≤s.hi:=by
            by_cases hc:x - s.lo≤o.hi
            · exact ⟨x - s.lo,⟨by omega,by omega⟩,by omega,by omega⟩
            · exact ⟨o.hi,⟨by omega,by omega⟩,by omega,by omega⟩
          obtain ⟨z,hz,h4,h5⟩:=hz
          obtain ⟨hz1,y,hy⟩:=(ih z).1 hz
          have hz0:0≤z:=by simp only[Sp.has] at hz;omega
          refine ⟨y,x - z,h4,h5,by omega,?_⟩
          rw[show x - (x - z)=z by omega];exact hy
        · rintro ⟨y,k',h1,h2,h3,h4⟩
          have:=(ih (x - k')).2 ⟨(zio _ he k hk _).2 ⟨x,hx,k',h1,h2,h3,rfl⟩,y,h4⟩
          simp only[Sp.has] at this
          exact ⟨(zfr _).2 (by omega),by omega,by omega⟩
theorem zqg:∀ (l:List Bf) (k:Sp),(logs l k).length=l.length+1
  |[],_=>rfl
  |e::l,k=>by simp[logs,zqg l]
def ends (l:List Bf)(k:Sp):Sp:=l.foldl (fun k e=>e.after k) k
theorem zim:∀ (l:List Bf) (k:Sp),(logs l k)[l.length]?=some (ends l k)
  |[],_=>rfl
  |e::l,k=>by simp only[logs,List.length_cons,List.getElem?_cons_succ,ends,List.foldl_cons];exact zim l _
theorem zqv:∀ (l:List Bf) (k:Sp),(∀ e∈l,e.fine)→0≤k.lo→∀ y,(ends l k).has y↔∃ x,k.has x∧Goes l x y
  |[],k,_,_,y=>by simp[ends,Goes]
  |e::l,k,hf,hk,y=>by
    have he:=hf e (by simp)
    have ih:=zqv l (e.after k) (fun e h=>hf e (by simp[h])) (zff e k hk) y
    simp only[ends,List.foldl_cons] at ih ⊢
    rw[ih]
    constructor
    · rintro ⟨z,h1,h2⟩
      obtain ⟨x,h3,h4⟩:=(zio e he k hk z).1 h1
      exact ⟨x,h3,(zmv ..).2 ⟨z,h4,h2⟩⟩
    · rintro ⟨x,h1,h2⟩
      obtain ⟨z,h3,h4⟩:=(zmv ..).1 h2
      exact ⟨z,(zio e he k hk z).2 ⟨x,h1,h3⟩,h4⟩
theorem zxb:∀ (l:List Bf) (k:Sp),0≤k.lo→0≤(ends l k).lo
  |[],_,h=>h
  |e::l,k,h=>zxb l (e.after k) (zff e k h)
theorem zmp (l:List Bf)(n:Int)(hf:∀ e∈l,e.fine)(hn:0≤n):((logs l ⟨n,n⟩).headD Sp.no).some=true↔∃ y,Goes l n y:=by
  obtain ⟨_,h⟩:=zmo l ⟨n,n⟩ hf hn
  rw[zhs]
  constructor
  · rintro ⟨x,hx⟩
    obtain ⟨h1,y,h2⟩:=(h x).1 hx
    simp only[Sp.has] at h1
    have e:x=n:=by omega
    subst e;exact ⟨y,h2⟩
  · rintro ⟨y,hy⟩
    exact ⟨n,(h n).2 ⟨⟨Int.le_refl _,Int.le_refl _⟩,y,hy⟩⟩
theorem zfx (l:List Bf)(n y:Int)(hf:∀ e∈l,e.fine)(hn:0≤n):(ends l ⟨n,n⟩).has y↔Goes l n y:=by
  rw[zqv l _ hf hn]
  constructor
  · rintro ⟨x,h1,h2⟩
    simp only[Sp.has] at h1
    have e:x=n:=by omega
    subst e;exact h2
  · exact fun h=>⟨n,⟨Int.le_refl _,Int.le_refl _⟩,h⟩

def bit (s:Nat)(i:Nat):Bool:=s.testBit i
def befell (c:Cl)(number:Int)(counts:Nat):List Bf:=
  c.events.zipIdx.map fun p=>if p.1.clamp≠number then .nil else if p.1.kind=0 then .sale p.1.sods else if bit counts p.2 then .count p.1.sods else .nil
def spanL (s:Sp):List Int:=(List.range (s.hi+1 - s.lo).toNat).map fun (i:Nat)=>s.lo+(i:Int)
structure Size where
  l:Int
  w:Int
  h:Int
  deriving DecidableEq,Inhabited
def sizes (p:Pl):List Size:=(spanL p.long).flatMap fun l=>(spanL p.wide).flatMap fun w=>(spanL p.high).map fun h=>⟨l,w,h⟩
def Size.sods (s:Size)(pack:Int):Int:=s.l * s.w * s.h * pack
def logOf (c:Cl)(number:Nat)(pack:Int)(counts:Nat)(s:Size):List Sp:=logs (befell c number counts) ⟨s.sods pack,s.sods pack⟩
structure Way where
  size:Size
  log:List Sp
def ways (c:Cl)(number:Nat)(pack:Int)(counts:Nat):List Way:=
  (sizes (c.piles.getD number default)).filterMap fun s=>if ((logOf c number pack counts s).headD Sp.no).some then some ⟨s,logOf c number pack counts s⟩ else none
def packs (c:Cl)(counts:Nat):List Int:=(spanL c.pack).filter fun k=>(List.range c.piles.length).all fun i=>!(ways c i k counts).isEmpty
def can (c:Cl)(counts:Nat):Bool:=!(packs c counts).isEmpty
def hull:List Sp→Sp
  |[]=>⟨0,0⟩
  |k::l=>l.foldl (fun k x=>k.either x) k
def every (c:Cl):Nat:=2 ^ c.events.length - 1
def spanOf (c:Cl)(number:Nat)(pack:Int)(f:Way→Sp):Sp:=hull ((ways c number pack (every c)).map f)
def ofAll (c:Cl)(number:Nat)(f:Int→Way→Sp):Sp:=hull ((packs c (every c)).map fun k=>spanOf c number k (f k))
def leftW (c:Cl)(w:Way):Sp:=w.log.getD c.events.length ⟨0,0⟩
def together (c:Cl)(set:Nat):Sp:=hull ((packs c (every c)).map fun k=>(List.range c.piles.length).foldl (fun acc i=>if bit set i then ⟨acc.lo+(spanOf c i k (leftW c)).lo,acc.hi+(spanOf c i k (leftW c)).hi⟩ else acc) ⟨0,0⟩)
def isSpan (s:Sp)(low high wide:Int):Bool:=decide (low≤s.lo∧s.lo≤s.hi∧s.hi≤high∧s.hi - s.lo≤wide)
def valid (c:Cl):Bool:=decide (1≤c.piles.length∧c.piles.length≤4)&&isSpan c.pack 1 5 2&&decide (c.events.length≤6) &&
  c.piles.all (fun p=>isSpan p.long 1 10 1&&isSpan p.wide 1 10 1&&isSpan p.high 1 10 1) &&
  c.events.all (fun v=>decide (0≤v.clamp∧v.clamp<c.piles.length)&&decide (v.kind=0∨v.kind=1)&&isSpan v.sods 0 5000 (if v.kind=0 then 3 else 5000))
end Clm
end Go.Proofs.YtimgnlellflciaaGreat

/- Spans as hulls of numbers that are possible. -/
namespace Go.Proofs.YtimgnlellflciaaGreat
open Go
namespace Clm
structure Hull (s:Sp) (P:Int→Prop):Prop where
  lo:P s.lo
  hi:P s.hi
  all:∀ x,P x→s.has x
theorem Hull.uniq {s t:Sp}{P:Int→Prop}(h:Hull s P)(g:Hull t P):s=t:=by
  obtain ⟨a,b⟩:=s
  obtain ⟨c,d⟩:=t
  have h1:=h.all _ g.lo;have h2:=h.all _ g.hi;have h3:=g.all _ h.lo;have h4:=g.all _ h.hi
  simp only[Sp.has] at h1 h2 h3 h4
  have e1:a=c:=by omega
  have e2:b=d:=by omega
  rw[e1,e2]
theorem Hull.congr {s:Sp}{P Q:Int→Prop}(h:Hull s P)(e:∀ x,P x↔Q x):Hull s Q:=⟨(e _).1 h.lo,(e _).1 h.hi,fun x hx=>h.all x ((e x).2 hx)⟩
theorem Hull.le {s:Sp}{P:Int→Prop}(h:Hull s P):s.lo≤s.hi:=(h.all _ h.hi).1
theorem zmt {s:Sp}(h:s.some=true):Hull s s.has:=by
  rw[zfr] at h;exact ⟨⟨Int.le_refl _,h⟩,⟨h,Int.le_refl _⟩,fun _ h=>h⟩
theorem Hull.either {s t:Sp}{P Q:Int→Prop}(h:Hull s P)(g:Hull t Q):Hull (s.either t) fun x=>P x∨Q x:=by
  refine ⟨?_,?_,?_⟩
  · simp only[Sp.either]
    by_cases hc:s.lo≤t.lo
    · rw[show min s.lo t.lo=s.lo by omega];exact .inl h.lo
    · rw[show min s.lo t.lo=t.lo by omega];exact .inr g.lo
  · simp only[Sp.either]
    by_cases hc:t.hi≤s.hi
    · rw[show max s.hi t.hi=s.hi by omega];exact .inl h.hi
    · rw[show max s.hi t.hi=t.hi by omega];exact .inr g.hi
  · rintro x (hx|hx)
    · have:=h.all x hx;simp only[Sp.has,Sp.either] at this ⊢;omega
    · have:=g.all x hx;simp only[Sp.has,Sp.either] at this ⊢;omega
theorem zmu {α:Type}(f:α→Sp)(P:α→Int→Prop):∀ (l:List α) (s:Sp) (Q:Int→Prop),Hull s Q→(∀ a∈l,Hull (f a) (P a))→Hull ((l.map f).foldl (fun k x=>k.either x) s) fun x=>Q x∨∃ a∈l,P a x
  |[],s,Q,h,_=>by simpa using h
  |a::l,s,Q,h,hl=>by
    simp only[List.map_cons,List.foldl_cons]
    refine (zmu f P l _ _ (h.either (hl a (by simp))) fun b hb=>hl b (by simp[hb])).congr fun x=>?_
    simp[or_assoc]
theorem zcf {α:Type}(f:α→Sp)(P:α→Int→Prop)(l:List α)(hne:l≠[])(h:∀ a∈l,Hull (f a) (P a)):Hull (hull (l.map f)) fun x=>∃ a∈l,P a x:=by
  cases l with
  |nil=>exact absurd rfl hne
  |cons a l=>
    simp only[List.map_cons,hull]
    refine (zmu f P l _ _ (h a (by simp)) fun b hb=>h b (by simp[hb])).congr fun x=>?_
    simp
theorem Hull.add {s t:Sp}{P Q:Int→Prop}(h:Hull s P)(g:Hull t Q):Hull ⟨s.lo+t.lo,s.hi+t.hi⟩ fun x=>∃ y z,P y∧Q z∧x=y+z:=
  ⟨⟨_, _, h.lo, g.lo, rfl⟩, ⟨_, _, h.hi, g.hi, rfl⟩, fun x ⟨y, z, hy, hz, e⟩ => by
    have:=h.all y hy;have:=g.all z hz;simp only[Sp.has] at *;omega⟩
theorem zwk (l:List Int)(hne:l≠[]):Hull (hull (l.map fun n=>⟨n,n⟩)) fun x=>x∈l:=
  (zcf (fun n=>⟨n,n⟩) (fun n x=>x=n) l hne fun a _=>⟨rfl,rfl,fun x e=>by subst e;exact ⟨Int.le_refl _,Int.le_refl _⟩⟩).congr fun x=>by simp
theorem either_comm (s t:Sp):s.either t=t.either s:=by simp only[Sp.either];congr 1<;>omega
end Clm
end Go.Proofs.YtimgnlellflciaaGreat

/- What the truths of clamps are, and what is returned of them. -/
namespace Go.Proofs.YtimgnlellflciaaGreat
open Go
namespace Clm
theorem mem_span (s:Sp)(x:Int):x∈spanL s↔s.has x:=by
  simp only[spanL,List.mem_map,List.mem_range,Sp.has]
  constructor
  · rintro ⟨i,h,rfl⟩;omega
  · intro h;exact ⟨(x - s.lo).toNat,by omega,by omega⟩
theorem mem_sizes (p:Pl)(s:Size):s∈sizes p↔p.long.has s.l∧p.wide.has s.w∧p.high.has s.h:=by
  simp only[sizes,List.mem_flatMap,List.mem_map,mem_span]
  constructor
  · rintro ⟨l,hl,w,hw,h,hh,rfl⟩;exact ⟨hl,hw,hh⟩
  · intro h;exact ⟨s.l,h.1,s.w,h.2.1,s.h,h.2.2,rfl⟩
def Poss (c:Cl)(number:Nat)(pack:Int)(counts:Nat)(n y:Int):Prop:=∃ s∈sizes (c.piles.getD number default),s.sods pack=n∧Goes (befell c number counts) n y
theorem zsm (s:Sp)(a b w:Int):isSpan s a b w=true↔a≤s.lo∧s.lo≤s.hi∧s.hi≤b∧s.hi - s.lo≤w:=by simp[isSpan]
structure Fine (c:Cl):Prop where
  piles:1≤c.piles.length∧c.piles.length≤4
  pack:1≤c.pack.lo∧c.pack.lo≤c.pack.hi∧c.pack.hi≤5∧c.pack.hi - c.pack.lo≤2
  events:c.events.length≤6
  pile:∀ p∈c.piles,(1≤p.long.lo∧p.long.lo≤p.long.hi∧p.long.hi≤10∧p.long.hi - p.long.lo≤1)∧(1≤p.wide.lo∧p.wide.lo≤p.wide.hi∧p.wide.hi≤10∧p.wide.hi - p.wide.lo≤1)∧(1≤p.high.lo∧p.high.lo≤p.high.hi∧p.high.hi≤10∧p.high.hi - p.high.lo≤1)
  event:∀ v∈c.events,(0≤v.clamp∧v.clamp<c.piles.length)∧(v.kind=0∨v.kind=1)∧0≤v.sods.lo∧v.sods.lo≤v.sods.hi∧v.sods.hi≤5000∧v.sods.hi - v.sods.lo≤(if v.kind=0 then 3 else 5000)
theorem valid_iff (c:Cl):valid c=true↔Fine c:=by
  simp only[valid,Bool.and_eq_true,decide_eq_true_eq,zsm,List.all_eq_true]
  exact ⟨fun h => ⟨h.1.1.1.1, h.1.1.1.2, h.1.1.2, fun p hp => ⟨(h.1.2 p hp).1.1, (h.1.2 p hp).1.2, (h.1.2 p hp).2⟩, fun v hv => ⟨(h.2 v hv).1.1, (h.2 v hv).1.2, (h.2 v hv).2⟩⟩,
    fun h=>⟨⟨⟨⟨h.piles,h.pack⟩,h.events⟩,fun p hp=>⟨⟨(h.pile p hp).1,(h.pile p hp).2.1⟩,(h.pile p hp).2.2⟩⟩,fun v hv=>⟨⟨(h.event v hv).1,(h.event v hv).2.1⟩,(h.event v hv).2.2⟩⟩⟩
theorem zcy {c:Cl}(hc:Fine c)(number counts:Nat):∀ e∈befell c number counts,e.fine:=by
  intro e he
  simp only[befell,List.mem_map] at he
  obtain ⟨⟨v,i⟩,hp,rfl⟩:=he
  have hv:v∈c.events:=by
    have:=List.mem_zipIdx hp
    obtain ⟨_,_,h⟩:=this
    simp only[h];exact List.getElem_mem _
  have:=hc.event v hv
  simp only
  split
  · trivial
  · split
    · exact ⟨this.2.2.1,this.2.2.2.1⟩
    · split<;>trivial
theorem befell_len (c:Cl)(number:Int)(counts:Nat):(befell c number counts).length=c.events.length:=by simp[befell]
theorem pile_mem {c:Cl}{i:Nat}(h:i<c.piles.length):c.piles.getD i default∈c.piles:=by
  rw[List.getD_eq_getElem?_getD,List.getElem?_eq_getElem h];exact List.getElem_mem _
theorem zht {c:Cl}(hc:Fine c){i:Nat}(hi:i<c.piles.length){k:Int}(hk:0≤k){s:Size}(hs:s∈sizes (c.piles.getD i default)):0≤s.sods k:=by
  have h1:=hc.pile _ (pile_mem hi)
  rw[mem_sizes] at hs
  simp only[Sp.has] at hs
  unfold Size.sods
  have a:0≤s.l:=by omega
  have b:0≤s.w:=by omega
  have d:0≤s.h:=by omega
  exact Int.mul_nonneg (Int.mul_nonneg (Int.mul_nonneg a b) d) hk
theorem mem_ways {c:Cl}(hc:Fine c){i:Nat}(hi:i<c.piles.length){k:Int}(hk:0≤k)(counts:Nat)(w:Way):
    w∈ways c i k counts↔w.size∈sizes (c.piles.getD i default)∧w.log=logOf c i k counts w.size∧∃ y,Goes (befell c i counts) (w.size.sods k) y:=by
  simp only[ways,List.mem_filterMap]
  constructor
  · rintro ⟨s,hs,h⟩
    split at h
    · rename_i hh
      cases h
      exact ⟨hs,rfl,(zmp _ _ (zcy hc i counts) (zht hc hi hk hs)).1 hh⟩
    · cases h
  · rintro ⟨h1,h2,h3⟩
    refine ⟨w.size,h1,?_⟩
    rw[show ((logOf c i k counts w.size).headD Sp.no).some=true from (zmp _ _ (zcy hc i counts) (zht hc hi hk h1)).2 h3]
    obtain ⟨a,b⟩:=w
    simp only at h2;subst h2;rfl
theorem zgd {c:Cl}(hc:Fine c){i:Nat}(hi:i<c.piles.length){k:Int}(hk:0≤k)(counts:Nat):ways c i k counts≠[]↔∃ n y,Poss c i k counts n y:=by
  constructor
  · intro h
    obtain ⟨w,hw⟩:=List.exists_mem_of_ne_nil _ h
    obtain ⟨h1,_,y,h3⟩:=(mem_ways hc hi hk counts w).1 hw
    exact ⟨_,y,w.size,h1,rfl,h3⟩
  · rintro ⟨n,y,s,h1,rfl,h3⟩ e
    have:=(mem_ways hc hi hk counts ⟨s,logOf c i k counts s⟩).2 ⟨h1,rfl,y,h3⟩
    rw[e] at this;cases this
theorem zof (c:Cl)(i:Nat)(k:Int)(counts:Nat)(s:Size):leftW c ⟨s,logOf c i k counts s⟩=ends (befell c i counts) ⟨s.sods k,s.sods k⟩:=by
  have:=zim (befell c i counts) ⟨s.sods k,s.sods k⟩
  rw[befell_len] at this
  simp only[leftW,logOf,List.getD_eq_getElem?_getD,this,Option.getD_some]
theorem zfv {c:Cl}(hc:Fine c){i:Nat}(hi:i<c.piles.length){k:Int}(hk:0≤k)(hne:ways c i k (every c)≠[]):Hull (spanOf c i k (leftW c)) fun y=>∃ n,Poss c i k (every c) n y:=by
  refine (zcf (leftW c) (fun w y=>Goes (befell c i (every c)) (w.size.sods k) y) _ hne fun w hw=>?_).congr fun y=>?_
  · obtain ⟨h1,h2,h3⟩:=(mem_ways hc hi hk _ w).1 hw
    have hf:=zcy hc i (every c)
    have hn:=zht hc hi hk h1
    have e:leftW c w=ends (befell c i (every c)) ⟨w.size.sods k,w.size.sods k⟩:=by
      rw[← zof];obtain ⟨a,b⟩:=w;simp only at h2;subst h2;rfl
    rw[e]
    refine (zmt ?_).congr fun y=>zfx _ _ y hf hn
    obtain ⟨y,hy⟩:=h3
    exact (zhs _).2 ⟨y,(zfx _ _ y hf hn).2 hy⟩
  · constructor
    · rintro ⟨w,hw,h⟩
      exact ⟨_,w.size,((mem_ways hc hi hk _ w).1 hw).1,rfl,h⟩
    · rintro ⟨n,s,h1,rfl,h3⟩
      exact ⟨⟨s,logOf c i k (every c) s⟩,(mem_ways hc hi hk _ _).2 ⟨h1,rfl,y,h3⟩,h3⟩
end Clm
end Go.Proofs.YtimgnlellflciaaGreat

/- Package clamp, gone through by the evaluator: what its walks share, and its functions of spans. -/
namespace Go.Proofs.YtimgnlellflciaaGreat
open Go
namespace Ev
namespace K
attribute [local simp] ev1 wantG spineK spine float xnew xval xeff zaa zar zbb zau zav addFl cellsOf pickC alive slLen slFt binI maxA maxK minA minK aeqK aeqS AV.cells fillA setAt bitsI nat_nn AV.plain apart
set_option maxRecDepth 100000
structure Hidden (p:Prop):Prop where
  out:p
theorem hideP {p:Prop}(h:p):Hidden p:=⟨h⟩
theorem zat {n:Int}(h1:-9223372036854775808≤n)(h2:n≤9223372036854775807):IntKind.i64.wrap n=n:=by
  simp[IntKind.wrap,IntKind.bits,IntKind.signed]
  split<;>omega
theorem st_eq {st:St}{tm:List AV}{df:List ADef}{hp:List AB}{tc:List Nat}(h1:st.tm=tm)(h2:st.df=df)(h3:st.hp=hp)(h4:st.tc=tc):st=⟨tm,df,hp,tc⟩:=by
  cases st;cases h1;cases h2;cases h3;cases h4;rfl
theorem zas (k:Nat)(H:List AB)(b off n k':Nat):slCells k H (.sl b off n k')=if k=k' then (match H[b]? with|some (.cells cs)=>if off+n * k≤cs.length then some ((cs.drop off).take (n * k)) else none|_=>none) else none:=rfl
structure Has (C:Cfg) (f:Nat) (fn:AFunc):Prop where
  ext:C.ext f=none
  exth:C.exth f=none
  fns:C.fns f=some fn
  whole:C.whole f=true
def Gives (res:List ARes)(v:AV)(e:AExit)(st:St):Prop:=e=.ret∧st.df=[]∧st.tc=[]∧(resL st res).map resV=some v
theorem zbn {C:Cfg}{n f:Nat}{fn:AFunc}{args:List AV}{H:List AB}{v:AV}(hc:C.calm=true)(h0:Has C f fn)(hlen:args.length≤fn.ntmps)(hv:refs v=[])
    (h:Does (ev C (Ev.call C n) H.length none fn.body { tm:=tmA fn.ntmps (zipI 0 args []),df:=[],hp:=H,tc:=[] }) (Gives fn.res v)):Ev.call C (n+1) (.fn (.func f) [] []) args H=some (.ret v,H,[]):=by
  have := zxm (n := n) (first := []) (captured := []) (args := args) (H := H) (R := fun x H' tc => x = .ret v ∧ H' = H ∧ tc = []) hc h0.ext h0.exth h0.fns h0.whole (by simpa using hlen) (by
    rw[List.nil_append,List.append_nil]
    refine h.mono fun e st ⟨h1,h2,h3,h4⟩=>?_
    subst h1
    refine ⟨.ret v,st,?_,?_⟩
    · have e1:runDefs C H.length st.df none st=some (none,st):=by rw[h2];rfl
      show (match runDefs C H.length st.df none st with
        |some (none,st)=>(resL st fn.res).map fun vs=>(CRes.ret (resV vs),st)
        |_=>none)=_
      rw[e1]
      show (resL st fn.res).map (fun vs=>(CRes.ret (resV vs),st))=_
      cases hr:resL st fn.res with
      |none=>rw[hr] at h4;cases h4
      |some vs=>rw[hr] at h4;cases h4;rfl
    · unfold Left
      rw[h3,if_pos (by unfold bareQ;simp[CRes.val,hv])]
      exact ⟨rfl,rfl,rfl⟩)
  obtain ⟨x,H',tc,h1,rfl,rfl,rfl⟩:=this
  exact h1
def spA (s:Clm.Sp):AV:=.agg [.int .i64 s.lo,.int .i64 s.hi]
def NoneC (call:CallF):Prop:=∀ (H:List AB),call (.fn (.func 110) [] []) [] H=some (.ret (.agg [.int .i64 1,.int .i64 0]),H,[])
theorem zyz (C:Cfg)(call:CallF)(H:List AB):Does (ev C call H.length none af110.body { tm:=tmA af110.ntmps (zipI 0 [] []),df:=[],hp:=H,tc:=[] }) (Gives af110.res (spA Clm.Sp.no)):=by
  unfold af110
  simp only[zipI,Clm.Sp.no]
  (repeat (first|(with_reducible apply zad;(focus ((conv=>lhs;simp[*,spA,zas,Nat.testBit_eq_decide_div_mod_eq])<;>exact rfl));simp only[addFl])|((with_reducible first|apply zai|apply zak|apply zah|apply zaf|apply zac|apply zaj|apply zag|apply zam|(apply zae;· simp[*,zaa])|(apply zab;· simp[*,zaa]));try simp only[Then,Ops])))
  (exact ⟨by first|trivial|rfl,by first|trivial|rfl,by first|trivial|rfl,by simp only[resL,resOf,zal];simp[*,pickC,resV,spA]⟩)
theorem zyb (C:Cfg)(call:CallF)(H:List AB)(s:Clm.Sp):Does (ev C call H.length none af101.body { tm:=tmA af101.ntmps (zipI 0 [spA s] []),df:=[],hp:=H,tc:=[] }) (Gives af101.res (.bool s.some)):=by
  unfold af101
  simp only[zipI,spA,Clm.Sp.some]
  (repeat (first|(with_reducible apply zad;(focus ((conv=>lhs;simp[*,spA,zas,Nat.testBit_eq_decide_div_mod_eq])<;>exact rfl));simp only[addFl])|((with_reducible first|apply zai|apply zak|apply zah|apply zaf|apply zac|apply zaj|apply zag|apply zam|(apply zae;· simp[*,zaa])|(apply zab;· simp[*,zaa]));try simp only[Then,Ops])))
  (exact ⟨by first|trivial|rfl,by first|trivial|rfl,by first|trivial|rfl,by simp only[resL,resOf,zal];simp[*,resV]⟩)
theorem ztb (C:Cfg)(call:CallF)(H:List AB)(s t:Clm.Sp):Does (ev C call H.length none af94.body { tm:=tmA af94.ntmps (zipI 0 [spA s,spA t] []),df:=[],hp:=H,tc:=[] }) (Gives af94.res (spA (s.either t))):=by
  unfold af94
  simp only[zipI,spA,Clm.Sp.either]
  (repeat (first|(with_reducible apply zad;(focus ((conv=>lhs;simp[*,spA,zas,Nat.testBit_eq_decide_div_mod_eq])<;>exact rfl));simp only[addFl])|((with_reducible first|apply zai|apply zak|apply zah|apply zaf|apply zac|apply zaj|apply zag|apply zam|(apply zae;· simp[*,zaa])|(apply zab;· simp[*,zaa]));try simp only[Then,Ops])))
  (exact ⟨by first|trivial|rfl,by first|trivial|rfl,by first|trivial|rfl,by simp only[resL,resOf,zal];simp[*,pickC,resV]⟩)
def SomeC (call:CallF):Prop:=∀ (H:List AB) (s:Clm.Sp),call (.fn (.func 101) [] []) [.agg [.int .i64 s.lo,.int .i64 s.hi]] H=some (.ret (.bool s.some),H,[])
theorem yab (C:Cfg)(call:CallF)(hN:NoneC call)(H:List AB)(s t:Clm.Sp):Does (ev C call H.length none af108.body { tm:=tmA af108.ntmps (zipI 0 [spA s,spA t] []),df:=[],hp:=H,tc:=[] }) (Gives af108.res (spA (s.both t))):=by
  have hN':=fun H=>hN H
  clear hN
  by_cases h:max s.lo t.lo > min s.hi t.hi
  · have e:s.both t=⟨1,0⟩:=by unfold Clm.Sp.both;rw[if_pos h];rfl
    have h':min s.hi t.hi<max s.lo t.lo:=h
    rw[e];clear e h
    unfold af108
    simp only[zipI,spA]
    (repeat (first|(with_reducible apply zad;(focus ((conv=>lhs;simp[*,spA,zas,Nat.testBit_eq_decide_div_mod_eq])<;>exact rfl));simp only[addFl])|((with_reducible first|apply zai|apply zak|apply zah|apply zaf|apply zac|apply zaj|apply zag|apply zam|(apply zae;· simp[*,zaa])|(apply zab;· simp[*,zaa]));try simp only[Then,Ops])))
    (exact ⟨by first|trivial|rfl,by first|trivial|rfl,by first|trivial|rfl,by simp only[resL,resOf,zal];simp[*,pickC,resV]⟩)
  · have e:s.both t=⟨max s.lo t.lo,min s.hi t.hi⟩:=by unfold Clm.Sp.both;rw[if_neg h]
    have h':¬ min s.hi t.hi<max s.lo t.lo:=h
    rw[e];clear e h
    unfold af108
    simp only[zipI,spA]
    (repeat (first|(with_reducible apply zad;(focus ((conv=>lhs;simp[*,spA,zas,Nat.testBit_eq_decide_div_mod_eq])<;>exact rfl));simp only[addFl])|((with_reducible first|apply zai|apply zak|apply zah|apply zaf|apply zac|apply zaj|apply zag|apply zam|(apply zae;· simp[*,zaa])|(apply zab;· simp[*,zaa]));try simp only[Then,Ops])))
    (exact ⟨by first|trivial|rfl,by first|trivial|rfl,by first|trivial|rfl,by simp only[resL,resOf,zal];simp[*,pickC,resV]⟩)
end K
end Ev
end Go.Proofs.YtimgnlellflciaaGreat

/- Package clamp, gone through: what an event makes of what is known. -/
namespace Go.Proofs.YtimgnlellflciaaGreat
open Go
namespace Ev
namespace K
attribute [local simp] ev1 wantG spineK spine float xnew xval xeff zaa zar zbb zau zav addFl cellsOf pickC alive slLen slFt binI maxA maxK minA minK aeqK aeqS AV.cells spA zas fillA setAt bitsI nat_nn AV.plain apart
set_option maxRecDepth 100000
def BothC (call:CallF):Prop:=∀ (H:List AB) (s t:Clm.Sp),call (.fn (.func 108) [] []) [.agg [.int .i64 s.lo,.int .i64 s.hi],.agg [.int .i64 t.lo,.int .i64 t.hi]] H=some (.ret (.agg [.int .i64 (s.both t).lo,.int .i64 (s.both t).hi]),H,[])
theorem zte (C:Cfg)(call:CallF)(hB:BothC call)(H:List AB)(s k:Clm.Sp):Does (ev C call H.length none af129.body { tm:=tmA af129.ntmps (zipI 0 [spA s,spA k] []),df:=[],hp:=H,tc:=[] }) (Gives af129.res (spA ((Clm.Bf.count s).after k))):=by
  have hB':=fun H=>hB H k s
  clear hB
  unfold af129
  simp only[zipI,spA,Clm.Bf.after]
  (repeat (first|(with_reducible apply zad;(focus ((conv=>lhs;simp[*,Nat.testBit_eq_decide_div_mod_eq])<;>exact rfl));simp only[addFl])|((with_reducible first|apply zai|apply zak|apply zah|apply zaf|apply zac|apply zaj|apply zag|apply zam|(apply zae;· simp[*,zaa])|(apply zab;· simp[*,zaa]));try simp only[Then,Ops])))
  (exact ⟨by first|trivial|rfl,by first|trivial|rfl,by first|trivial|rfl,by simp only[resL,resOf,zal];simp[*,pickC,resV]⟩)
theorem ztd (C:Cfg)(call:CallF)(hB:BothC call)(H:List AB)(s k:Clm.Sp):Does (ev C call H.length none af130.body { tm:=tmA af130.ntmps (zipI 0 [spA s,spA k] []),df:=[],hp:=H,tc:=[] }) (Gives af130.res (spA ((Clm.Bf.count s).before k))):=by
  have hB':=fun H=>hB H k s
  clear hB
  unfold af130
  simp only[zipI,spA,Clm.Bf.before]
  (repeat (first|(with_reducible apply zad;(focus ((conv=>lhs;simp[*,Nat.testBit_eq_decide_div_mod_eq])<;>exact rfl));simp only[addFl])|((with_reducible first|apply zai|apply zak|apply zah|apply zaf|apply zac|apply zaj|apply zag|apply zam|(apply zae;· simp[*,zaa])|(apply zab;· simp[*,zaa]));try simp only[Then,Ops])))
  (exact ⟨by first|trivial|rfl,by first|trivial|rfl,by first|trivial|rfl,by simp only[resL,resOf,zal];simp[*,pickC,resV]⟩)
theorem zun (C:Cfg)(call:CallF)(hN:NoneC call)(hS:SomeC call)(H:List AB)(s k:Clm.Sp)(h1:-1000000000≤k.lo)(h2:k.lo≤1000000000)(h3:-1000000000≤k.hi)(h4:k.hi≤1000000000)(h5:0≤s.lo)(h6:s.lo≤10000)(h7:0≤s.hi)(h8:s.hi≤10000):
    Does (ev C call H.length none af128.body { tm:=tmA af128.ntmps (zipI 0 [spA s,spA k] []),df:=[],hp:=H,tc:=[] }) (Gives af128.res (spA ((Clm.Bf.sale s).before k))):=by
  have hN':=fun H=>hN H
  have hS':=fun H=>hS H k
  have w1:IntKind.i64.wrap (k.lo+s.lo)=k.lo+s.lo:=zat (by omega) (by omega)
  have w2:IntKind.i64.wrap (k.hi+s.hi)=k.hi+s.hi:=zat (by omega) (by omega)
  clear hN hS h1 h2 h3 h4 h5 h6 h7 h8
  cases h:k.some
  · have e:(Clm.Bf.sale s).before k=⟨1,0⟩:=by simp only[Clm.Bf.before,h,if_true];rfl
    rw[e];clear e
    unfold af128
    simp only[zipI,spA]
    (repeat (first|(with_reducible apply zad;(focus ((conv=>lhs;simp[*,Nat.testBit_eq_decide_div_mod_eq])<;>exact rfl));simp only[addFl])|((with_reducible first|apply zai|apply zak|apply zah|apply zaf|apply zac|apply zaj|apply zag|apply zam|(apply zae;· simp[*,zaa])|(apply zab;· simp[*,zaa]));try simp only[Then,Ops])))
    (exact ⟨by first|trivial|rfl,by first|trivial|rfl,by first|trivial|rfl,by simp only[resL,resOf,zal];simp[*,pickC,resV]⟩)
  · have e:(Clm.Bf.sale s).before k=⟨k.lo+s.lo,k.hi+s.hi⟩:=by simp[Clm.Bf.before,h]
    rw[e];clear e
    unfold af128
    simp only[zipI,spA]
    (repeat (first|(with_reducible apply zad;(focus ((conv=>lhs;simp[*,Nat.testBit_eq_decide_div_mod_eq])<;>exact rfl));simp only[addFl])|((with_reducible first|apply zai|apply zak|apply zah|apply zaf|apply zac|apply zaj|apply zag|apply zam|(apply zae;· simp[*,zaa])|(apply zab;· simp[*,zaa]));try simp only[Then,Ops])))
    (exact ⟨by first|trivial|rfl,by first|trivial|rfl,by first|trivial|rfl,by simp only[resL,resOf,zal];simp[*,pickC,resV]⟩)
theorem zuo (C:Cfg)(call:CallF)(hN:NoneC call)(hS:SomeC call)(H:List AB)(s k:Clm.Sp)(h1:-1000000000≤k.lo)(h2:k.lo≤1000000000)(h3:-1000000000≤k.hi)(h4:k.hi≤1000000000)(h5:0≤s.lo)(h6:s.lo≤10000)(h7:0≤s.hi)(h8:s.hi≤10000):
    Does (ev C call H.length none af127.body { tm:=tmA af127.ntmps (zipI 0 [spA s,spA k] []),df:=[],hp:=H,tc:=[] }) (Gives af127.res (spA ((Clm.Bf.sale s).after k))):=by
  have hN':=fun H=>hN H
  have hS':=fun H=>hS H k
  have w1:IntKind.i64.wrap (k.lo - s.hi)=k.lo - s.hi:=zat (by omega) (by omega)
  have w2:IntKind.i64.wrap (k.hi - s.lo)=k.hi - s.lo:=zat (by omega) (by omega)
  clear hN hS h1 h2 h3 h4 h5 h6 h7 h8
  cases h:k.some
  · have e:(Clm.Bf.sale s).after k=⟨1,0⟩:=by simp only[Clm.Bf.after,h,true_or,if_true];rfl
    rw[e];clear e
    unfold af127
    simp only[zipI,spA]
    (repeat (first|(with_reducible apply zad;(focus ((conv=>lhs;simp[*,Nat.testBit_eq_decide_div_mod_eq])<;>exact rfl));simp only[addFl])|((with_reducible first|apply zai|apply zak|apply zah|apply zaf|apply zac|apply zaj|apply zag|apply zam|(apply zae;· simp[*,zaa])|(apply zab;· simp[*,zaa]));try simp only[Then,Ops])))
    (exact ⟨by first|trivial|rfl,by first|trivial|rfl,by first|trivial|rfl,by simp only[resL,resOf,zal];simp[*,pickC,resV]⟩)
  · by_cases h':k.hi<s.lo
    · have e:(Clm.Bf.sale s).after k=⟨1,0⟩:=by simp only[Clm.Bf.after,h',or_true,if_true];rfl
      rw[e];clear e
      unfold af127
      simp only[zipI,spA]
      (repeat (first|(with_reducible apply zad;(focus ((conv=>lhs;simp[*,Nat.testBit_eq_decide_div_mod_eq])<;>exact rfl));simp only[addFl])|((with_reducible first|apply zai|apply zak|apply zah|apply zaf|apply zac|apply zaj|apply zag|apply zam|(apply zae;· simp[*,zaa])|(apply zab;· simp[*,zaa]));try simp only[Then,Ops])))
      (exact ⟨by first|trivial|rfl,by first|trivial|rfl,by first|trivial|rfl,by simp only[resL,resOf,zal];simp[*,pickC,resV]⟩)
    · have e:(Clm.Bf.sale s).after k=⟨max 0 (k.lo - s.hi),k.hi - s.lo⟩:=by simp[Clm.Bf.after,h,h']
      rw[e];clear e
      unfold af127
      simp only[zipI,spA]
      (repeat (first|(with_reducible apply zad;(focus ((conv=>lhs;simp[*,Nat.testBit_eq_decide_div_mod_eq])<;>exact rfl));simp only[addFl])|((with_reducible first|apply zai|apply zak|apply zah|apply zaf|apply zac|apply zaj|apply zag|apply zam|(apply zae;· simp[*,zaa])|(apply zab;· simp[*,zaa]));try simp only[Then,Ops])))
      (exact ⟨by first|trivial|rfl,by first|trivial|rfl,by first|trivial|rfl,by simp only[resL,resOf,zal];simp[*,pickC,resV]⟩)
end K
end Ev
end Go.Proofs.YtimgnlellflciaaGreat

/- Package clamp, gone through: its small functions. -/
namespace Go.Proofs.YtimgnlellflciaaGreat
open Go
namespace Ev
namespace K
attribute [local simp] ev1 wantG spineK spine float xnew xval xeff zaa zar zbb zau zav addFl cellsOf pickC alive slLen slFt binI maxA maxK minA minK aeqK aeqS AV.cells spA zas fillA setAt bitsI nat_nn AV.plain apart
set_option maxRecDepth 100000
theorem zrd (C:Cfg)(call:CallF)(H:List AB)(n a b:Int):Does (ev C call H.length none af86.body { tm:=tmA af86.ntmps (zipI 0 [.int .i64 n,.int .i64 a,.int .i64 b] []),df:=[],hp:=H,tc:=[] }) (Gives af86.res (.bool (decide (a≤n∧n≤b)))):=by
  unfold af86
  simp only[zipI]
  by_cases h:a≤n
  · (repeat (first|(with_reducible apply zad;(focus ((conv=>lhs;simp[*,Nat.testBit_eq_decide_div_mod_eq])<;>exact rfl));simp only[addFl])|((with_reducible first|apply zai|apply zak|apply zah|apply zaf|apply zac|apply zaj|apply zag|apply zam|(apply zae;· simp[*,zaa])|(apply zab;· simp[*,zaa]));try simp only[Then,Ops])))
    (exact ⟨by first|trivial|rfl,by first|trivial|rfl,by first|trivial|rfl,by simp only[resL,resOf,zal];simp[*,resV]⟩)
  · (repeat (first|(with_reducible apply zad;(focus ((conv=>lhs;simp[*,Nat.testBit_eq_decide_div_mod_eq])<;>exact rfl));simp only[addFl])|((with_reducible first|apply zai|apply zak|apply zah|apply zaf|apply zac|apply zaj|apply zag|apply zam|(apply zae;· simp[*,zaa])|(apply zab;· simp[*,zaa]));try simp only[Then,Ops])))
    (exact ⟨by first|trivial|rfl,by first|trivial|rfl,by first|trivial|rfl,by simp only[resL,resOf,zal];simp[*,resV]⟩)
theorem at_fun (C:Cfg)(call:CallF)(H:List AB)(n:Int):Does (ev C call H.length none af34.body { tm:=tmA af34.ntmps (zipI 0 [.int .i64 n] []),df:=[],hp:=H,tc:=[] }) (Gives af34.res (spA ⟨n,n⟩)):=by
  unfold af34
  simp only[zipI]
  (repeat (first|(with_reducible apply zad;(focus ((conv=>lhs;simp[*,Nat.testBit_eq_decide_div_mod_eq])<;>exact rfl));simp only[addFl])|((with_reducible first|apply zai|apply zak|apply zah|apply zaf|apply zac|apply zaj|apply zag|apply zam|(apply zae;· simp[*,zaa])|(apply zab;· simp[*,zaa]));try simp only[Then,Ops])))
  (exact ⟨by first|trivial|rfl,by first|trivial|rfl,by first|trivial|rfl,by simp only[resL,resOf,zal];simp[*,pickC,resV,spA]⟩)
def WithinC (call:CallF):Prop:=∀ (H:List AB) (n a b:Int),call (.fn (.func 86) [] []) [.int .i64 n,.int .i64 a,.int .i64 b] H=some (.ret (.bool (decide (a≤n∧n≤b))),H,[])
theorem zpa (C:Cfg)(call:CallF)(hW:WithinC call)(H:List AB)(n:Int):Does (ev C call H.length none af54.body { tm:=tmA af54.ntmps (zipI 0 [.int .i64 n] []),df:=[],hp:=H,tc:=[] }) (Gives af54.res (.bool (decide (0≤n∧n≤20000)))):=by
  have hW':=fun H=>hW H n 0 20000
  clear hW
  unfold af54
  simp only[zipI]
  (repeat (first|(with_reducible apply zad;(focus ((conv=>lhs;simp[*,Nat.testBit_eq_decide_div_mod_eq])<;>exact rfl));simp only[addFl])|((with_reducible first|apply zai|apply zak|apply zah|apply zaf|apply zac|apply zaj|apply zag|apply zam|(apply zae;· simp[*,zaa])|(apply zab;· simp[*,zaa]));try simp only[Then,Ops])))
  (exact ⟨by first|trivial|rfl,by first|trivial|rfl,by first|trivial|rfl,by simp only[resL,resOf,zal];simp[*,resV]⟩)
theorem zsn (C:Cfg)(call:CallF)(H:List AB)(s:Clm.Sp)(a b w:Int)(h0:a=0∨a=1)(hb:b≤5000):Does (ev C call H.length none af85.body { tm:=tmA af85.ntmps (zipI 0 [spA s,.int .i64 a,.int .i64 b,.int .i64 w] []),df:=[],hp:=H,tc:=[] }) (Gives af85.res (.bool (Clm.isSpan s a b w))):=by
  by_cases h1:a≤s.lo
  · by_cases h2:s.lo≤s.hi
    · by_cases h3:s.hi≤b
      · have w1:IntKind.i64.wrap (s.hi - s.lo)=s.hi - s.lo:=zat (by omega) (by omega)
        clear h0 hb
        have e:Clm.isSpan s a b w=decide (s.hi - s.lo≤w):=by simp[Clm.isSpan,h1,h2,h3]
        rw[e];clear e
        unfold af85
        simp only[zipI,spA]
        (repeat (first|(with_reducible apply zad;(focus ((conv=>lhs;simp[*,Nat.testBit_eq_decide_div_mod_eq])<;>exact rfl));simp only[addFl])|((with_reducible first|apply zai|apply zak|apply zah|apply zaf|apply zac|apply zaj|apply zag|apply zam|(apply zae;· simp[*,zaa])|(apply zab;· simp[*,zaa]));try simp only[Then,Ops])))
        (exact ⟨by first|trivial|rfl,by first|trivial|rfl,by first|trivial|rfl,by simp only[resL,resOf,zal];simp[*,resV]⟩)
      · clear h0 hb
        have e:Clm.isSpan s a b w=false:=by simp[Clm.isSpan,h3]
        rw[e];clear e
        unfold af85
        simp only[zipI,spA]
        (repeat (first|(with_reducible apply zad;(focus ((conv=>lhs;simp[*,Nat.testBit_eq_decide_div_mod_eq])<;>exact rfl));simp only[addFl])|((with_reducible first|apply zai|apply zak|apply zah|apply zaf|apply zac|apply zaj|apply zag|apply zam|(apply zae;· simp[*,zaa])|(apply zab;· simp[*,zaa]));try simp only[Then,Ops])))
        (exact ⟨by first|trivial|rfl,by first|trivial|rfl,by first|trivial|rfl,by simp only[resL,resOf,zal];simp[*,resV]⟩)
    · clear h0 hb
      have e:Clm.isSpan s a b w=false:=by simp[Clm.isSpan,h2]
      rw[e];clear e
      unfold af85
      simp only[zipI,spA]
      (repeat (first|(with_reducible apply zad;(focus ((conv=>lhs;simp[*,Nat.testBit_eq_decide_div_mod_eq])<;>exact rfl));simp only[addFl])|((with_reducible first|apply zai|apply zak|apply zah|apply zaf|apply zac|apply zaj|apply zag|apply zam|(apply zae;· simp[*,zaa])|(apply zab;· simp[*,zaa]));try simp only[Then,Ops])))
      (exact ⟨by first|trivial|rfl,by first|trivial|rfl,by first|trivial|rfl,by simp only[resL,resOf,zal];simp[*,resV]⟩)
  · clear h0 hb
    have e:Clm.isSpan s a b w=false:=by simp[Clm.isSpan,h1]
    rw[e];clear e
    unfold af85
    simp only[zipI,spA]
    (repeat (first|(with_reducible apply zad;(focus ((conv=>lhs;simp[*,Nat.testBit_eq_decide_div_mod_eq])<;>exact rfl));simp only[addFl])|((with_reducible first|apply zai|apply zak|apply zah|apply zaf|apply zac|apply zaj|apply zag|apply zam|(apply zae;· simp[*,zaa])|(apply zab;· simp[*,zaa]));try simp only[Then,Ops])))
    (exact ⟨by first|trivial|rfl,by first|trivial|rfl,by first|trivial|rfl,by simp only[resL,resOf,zal];simp[*,resV]⟩)
end K
end Ev
end Go.Proofs.YtimgnlellflciaaGreat

/- Package clamp, gone through: products. -/
namespace Go.Proofs.YtimgnlellflciaaGreat
open Go
namespace Ev
namespace K
attribute [local simp] ev1 wantG spineK spine float xnew xval xeff zaa zar zbb zau zav addFl cellsOf pickC alive slLen slFt binI maxA maxK minA minK aeqK aeqS AV.cells spA zas fillA setAt bitsI nat_nn AV.plain apart
set_option maxRecDepth 100000
theorem mulB {x y A B:Int}(h1:0≤x)(h2:x≤A)(h3:0≤y)(h4:y≤B):0≤x * y∧x * y≤A * B:=⟨Int.mul_nonneg h1 h3,Int.mul_le_mul h2 h4 h3 (by omega)⟩
set_option maxHeartbeats 2000000 in
theorem znx (C:Cfg)(hC:C.calm=true)(call:CallF)(H:List AB)(l w h p:Int)(l0:0≤l)(l1:l≤10)(w0:0≤w)(w1:w≤10)(h0:0≤h)(h1:h≤10)(p0:0≤p)(p1:p≤10)(b:Nat)(hb:H[b]?=some (.cells [.int .i64 l,.int .i64 w,.int .i64 h,.int .i64 p])):
    Does (ev C call H.length none af84.body { tm:=tmA af84.ntmps (zipI 0 [.sl b 0 4 1] []),df:=[],hp:=H,tc:=[] }) (Gives af84.res (.int .i64 (l * w * h * p))):=by
  obtain ⟨hbl,hbg⟩:=List.getElem?_eq_some_iff.1 hb
  obtain ⟨a0,a1⟩:=mulB l0 l1 w0 w1
  obtain ⟨b0,b1⟩:=mulB a0 a1 h0 h1
  obtain ⟨c0,c1⟩:=mulB b0 b1 p0 p1
  have x0:IntKind.i64.wrap l=l:=zat (by omega) (by omega)
  have x1:IntKind.i64.wrap (l * w)=l * w:=zat (by omega) (by omega)
  have x2:IntKind.i64.wrap (l * w * h)=l * w * h:=zat (by omega) (by omega)
  have x3:IntKind.i64.wrap (l * w * h * p)=l * w * h * p:=zat (by omega) (by omega)
  have k1:IntKind.i64.wrap 1=1:=zat (by omega) (by omega)
  have k2:IntKind.i64.wrap 2=2:=zat (by omega) (by omega)
  have k3:IntKind.i64.wrap 3=3:=zat (by omega) (by omega)
  have k4:IntKind.i64.wrap 4=4:=zat (by omega) (by omega)
  clear l0 l1 w0 w1 h0 h1 p0 p1 a0 a1 b0 b1 c0 c1
  unfold af84
  simp only[zipI]
  (repeat (first|(with_reducible apply zad;(focus ((conv=>lhs;simp[*,Nat.testBit_eq_decide_div_mod_eq])<;>exact rfl));simp only[addFl])|((with_reducible first|apply zai|apply zak|apply zah|apply zaf|apply zac|apply zaj|apply zag|apply zam|(apply zae;· simp[*,zaa])|(apply zab;· simp[*,zaa]));try simp only[Then,Ops])))
  refine zix (fun q st => ∃ (i : Int) (acc : Int), (q = 4 ∧ i = 0 ∧ acc = 1 ∨ q = 3 ∧ i = 1 ∧ acc = l ∨ q = 2 ∧ i = 2 ∧ acc = l * w ∨ q = 1 ∧ i = 3 ∧ acc = l * w * h ∨ q = 0 ∧ i = 4 ∧ acc = l * w * h * p) ∧
    st={ tm:=tmA 17 [(8,.int .i64 i),(7,.int .i64 4),(6,.sl b 0 4 1),(3,.int .i64 acc)],df:=[],hp:=H,tc:=[] }) 4 (by decide) ?_ ?_
  · refine ⟨0,1,.inl ⟨rfl,rfl,rfl⟩,?_⟩
    simp only[zcq hC]
    exact st_eq (by simp[zan,zaq]) rfl rfl rfl
  · rintro q st ⟨i,acc,hq,rfl⟩
    rcases hq with ⟨rfl,rfl,rfl⟩|⟨rfl,rfl,rfl⟩|⟨rfl,rfl,rfl⟩|⟨rfl,rfl,rfl⟩|⟨rfl,rfl,rfl⟩
    · (repeat (first|(with_reducible apply zad;(focus ((conv=>lhs;simp[*,Nat.testBit_eq_decide_div_mod_eq])<;>exact rfl));simp only[addFl])|((with_reducible first|apply zai|apply zak|apply zah|apply zaf|apply zac|apply zaj|apply zag|apply zam|(apply zae;· simp[*,zaa])|(apply zab;· simp[*,zaa]));try simp only[Then,Ops,OutB])))
      refine ⟨3,rfl,1,_,.inr (.inl ⟨rfl,rfl,rfl⟩),?_⟩
      simp only[zcq hC]
      exact st_eq (by simp[*,zan,zaq]) rfl rfl rfl
    · (repeat (first|(with_reducible apply zad;(focus ((conv=>lhs;simp[*,Nat.testBit_eq_decide_div_mod_eq])<;>exact rfl));simp only[addFl])|((with_reducible first|apply zai|apply zak|apply zah|apply zaf|apply zac|apply zaj|apply zag|apply zam|(apply zae;· simp[*,zaa])|(apply zab;· simp[*,zaa]));try simp only[Then,Ops,OutB])))
      refine ⟨2,rfl,2,_,.inr (.inr (.inl ⟨rfl,rfl,rfl⟩)),?_⟩
      simp only[zcq hC]
      exact st_eq (by simp[*,zan,zaq]) rfl rfl rfl
    · (repeat (first|(with_reducible apply zad;(focus ((conv=>lhs;simp[*,Nat.testBit_eq_decide_div_mod_eq])<;>exact rfl));simp only[addFl])|((with_reducible first|apply zai|apply zak|apply zah|apply zaf|apply zac|apply zaj|apply zag|apply zam|(apply zae;· simp[*,zaa])|(apply zab;· simp[*,zaa]));try simp only[Then,Ops,OutB])))
      refine ⟨1,rfl,3,_,.inr (.inr (.inr (.inl ⟨rfl,rfl,rfl⟩))),?_⟩
      simp only[zcq hC]
      exact st_eq (by simp[*,zan,zaq]) rfl rfl rfl
    · (repeat (first|(with_reducible apply zad;(focus ((conv=>lhs;simp[*,Nat.testBit_eq_decide_div_mod_eq])<;>exact rfl));simp only[addFl])|((with_reducible first|apply zai|apply zak|apply zah|apply zaf|apply zac|apply zaj|apply zag|apply zam|(apply zae;· simp[*,zaa])|(apply zab;· simp[*,zaa]));try simp only[Then,Ops,OutB])))
      refine ⟨0,rfl,4,_,.inr (.inr (.inr (.inr ⟨rfl,rfl,rfl⟩))),?_⟩
      simp only[zcq hC]
      exact st_eq (by simp[*,zan,zaq]) rfl rfl rfl
    · (repeat (first|(with_reducible apply zad;(focus ((conv=>lhs;simp[*,Nat.testBit_eq_decide_div_mod_eq])<;>exact rfl));simp only[addFl])|((with_reducible first|apply zai|apply zak|apply zah|apply zaf|apply zac|apply zaj|apply zag|apply zam|(apply zae;· simp[*,zaa])|(apply zab;· simp[*,zaa]));try simp only[Then,Ops,OutB,reduceIte])))
      (exact ⟨by first|trivial|rfl,by first|trivial|rfl,by first|trivial|rfl,by simp only[resL,resOf,zal];simp[*,resV]⟩)
def ProductC (call:CallF):Prop:=∀ (H:List AB) (l w h p:Int),0≤l→l≤10→0≤w→w≤10→0≤h→h≤10→0≤p→p≤10→∀ b,H[b]?=some (.cells [.int .i64 l,.int .i64 w,.int .i64 h,.int .i64 p]) →
  call (.fn (.func 84) [] []) [.sl b 0 4 1] H=some (.ret (.int .i64 (l * w * h * p)),H,[])
theorem zyc (C:Cfg)(call:CallF)(hP:ProductC call)(H:List AB)(i l w h p:Int)(l0:0≤l)(l1:l≤10)(w0:0≤w)(w1:w≤10)(h0:0≤h)(h1:h≤10)(p0:0≤p)(p1:p≤10):
    Does (ev C call H.length none af35.body { tm:=tmA af35.ntmps (zipI 0 [.agg [.int .i64 i,.int .i64 l,.int .i64 w,.int .i64 h,.int .i64 p]] []),df:=[],hp:=H,tc:=[] }) (Gives af35.res (.int .i64 (l * w * h * p))):=by
  have hP':=fun H b hb=>hP H l w h p l0 l1 w0 w1 h0 h1 p0 p1 b hb
  clear hP l0 l1 w0 w1 h0 h1 p0 p1
  unfold af35
  simp only[zipI]
  (repeat (first|(with_reducible apply zad;(focus ((conv=>lhs;simp[*,Nat.testBit_eq_decide_div_mod_eq])<;>exact rfl));simp only[addFl])|((with_reducible first|apply zai|apply zak|apply zah|apply zaf|apply zac|apply zaj|apply zag|apply zam|(apply zae;· simp[*,zaa])|(apply zab;· simp[*,zaa]));try simp only[Then,Ops])))
  (exact ⟨by first|trivial|rfl,by first|trivial|rfl,by first|trivial|rfl,by simp only[resL,resOf,zal];simp[*,resV]⟩)
end K
end Ev
end Go.Proofs.YtimgnlellflciaaGreat

/- Package clamp, gone through: must, which panics. -/
namespace Go.Proofs.YtimgnlellflciaaGreat
open Go
namespace Ev
namespace K
set_option maxRecDepth 100000
end K
end Ev
end Go.Proofs.YtimgnlellflciaaGreat

/- Calls that turn memory, with values that are not known: what they leave. -/
namespace Go.Proofs.YtimgnlellflciaaGreat
open Go
namespace Ev
structure Kp (S:List Nat) (H H':List AB):Prop where
  len:H.length≤H'.length
  get:∀ b,b<H.length→b∉S→H'[b]?=H[b]?
theorem Kp.refl (S:List Nat)(H:List AB):Kp S H H:=⟨Nat.le_refl _,fun _ _ _=>rfl⟩
theorem Kp.trans {S:List Nat}{H G K:List AB}(h:Kp S H G)(g:Kp S G K):Kp S H K:=
  ⟨Nat.le_trans h.len g.len,fun b hb hs=>(g.get b (Nat.lt_of_lt_of_le hb h.len) hs).trans (h.get b hb hs)⟩
theorem Kp.mono {S T:List Nat}{H G:List AB}(h:Kp S H G)(hs:∀ b,b<H.length→b∈S→b∈T):Kp T H G:=⟨h.len,fun b hb hn=>h.get b hb fun hh=>hn (hs b hb hh)⟩
theorem Kp.trans2 {S T:List Nat}{H G K:List AB}(h:Kp S H G)(g:Kp T G K):Kp (T.filter (·<H.length)++S) H K:=
  ⟨Nat.le_trans h.len g.len, fun b hb hs => by
    rw[List.mem_append,List.mem_filter,not_or] at hs
    exact (g.get b (Nat.lt_of_lt_of_le hb h.len) fun h'=>hs.1 ⟨h',by simpa using hb⟩).trans (h.get b hb hs.2)⟩
theorem Kp.app {S:List Nat}(H K:List AB):Kp S H (H++K):=⟨by simp,fun b hb _=>List.getElem?_append_left hb⟩
theorem Kp.set {S:List Nat}{H G:List AB}(h:Kp S H G)(i:Nat)(v:AB)(hi:i<H.length→i∈S):Kp S H (G.set i v):=
  ⟨by simpa using h.len, fun b hb hs => by
    rw[List.getElem?_set_ne (fun e=>by subst e;exact hs (hi hb))];exact h.get b hb hs⟩
theorem Kp.pre {S:List Nat}{H K G:List AB}(h:Kp S (H++K) G):Kp S H G:=(Kp.app H K).trans h
theorem get_lt {H:List AB}{b:Nat}{x:AB}(h:H[b]?=some x):b<H.length:=(List.getElem?_eq_some_iff.1 h).1
theorem Kp.at {S:List Nat}{H G:List AB}(h:Kp S H G){b:Nat}{x:AB}(hx:H[b]?=some x)(hb:b∉S):G[b]?=some x:=(h.get b (get_lt hx) hb).trans hx
theorem bk {H:List AB}{b:Nat}{x:AB}(h:H[b]?=some x):b<H.length∧(∀ K,(H++K)[b]?=some x)∧(∀ n,b<H.length+n)∧(∀ K (h:b<(H++K).length),(H++K)[b]'h=x)∧(∀ h:b<H.length,H[b]'h=x):=by
  have hl:=get_lt h
  have h1:∀ K,(H++K)[b]?=some x:=fun K=>(List.getElem?_append_left hl).trans h
  refine ⟨hl,h1,fun n=>by omega,fun K hk=>?_,fun hh=>?_⟩
  · have:=h1 K;rw[List.getElem?_eq_getElem hk] at this;exact Option.some.inj this
  · rw[List.getElem?_eq_getElem hh] at h;exact Option.some.inj h
structure Bk (H:List AB) (b:Nat) (x:AB):Prop where
  lt:b<H.length
  get:H[b]?=some x
  app:∀ K,(H++K)[b]?=some x
  lts:∀ n,b<H.length+n
  ix:∀ K (h:b<(H++K).length),(H++K)[b]'h=x
  i0:∀ h:b<H.length,H[b]'h=x
theorem bk' {H:List AB}{b:Nat}{x:AB}(h:H[b]?=some x):Bk H b x:=⟨(bk h).1,h,(bk h).2.1,(bk h).2.2.1,(bk h).2.2.2.1,(bk h).2.2.2.2⟩
theorem zuk {H:List AB}{b:Nat}(hb:b<H.length)(K:List AB)(v:AB):(H++K).set b v=H.set b v++K:=by rw[List.set_append_left _ _ hb]
structure Lft (H hp:List AB) (tc:List Nat) (H':List AB):Prop where
  len:H.length≤H'.length
  old:∀ j,j<H.length→j∉tc→H'[j]?=H[j]?
  got:∀ j,j<H.length→j∈tc→H'[j]?=hp[j]?
theorem zhu {H hp:List AB}{tc:List Nat}(hlen:H.length≤hp.length)(j:Nat):(overH H hp tc++hp.drop H.length)[j]?=if j<H.length∧j∉tc then H[j]? else hp[j]?:=by
  have main:∀ tc j,(overH H hp tc)[j]?=if j<H.length then (if j∈tc then hp[j]? else H[j]?) else none:=by
    intro tc
    induction tc with
    |nil=>
      intro j
      simp only[overH,List.not_mem_nil,if_false]
      split
      · rfl
      · rename_i h;rw[List.getElem?_eq_none (by omega)]
    |cons k tc ih=>
      intro j
      simp only[overH,List.getElem?_set,zca,List.mem_cons]
      by_cases hkj:k=j
      · subst hkj
        by_cases hk:k<H.length
        · simp only[hk,if_true,true_or]
          rw[List.getD_eq_getElem?_getD,List.getElem?_eq_getElem (by omega)];rfl
        · simp only[hk,if_false,if_true]
      · have hjk:¬j=k:=fun e=>hkj e.symm
        simp only[hkj,hjk,if_false,ih,false_or]
  rw[List.getElem?_append,zca]
  by_cases hj:j<H.length
  · rw[if_pos hj,main,if_pos hj]
    by_cases ht:j∈tc
    · simp[ht]
    · simp[ht,hj]
  · rw[if_neg hj,if_neg (by simp[hj]),List.getElem?_drop]
    congr 1;omega
theorem zzg {H hp:List AB}{tc:List Nat}(hlen:H.length≤hp.length):Lft H hp tc (overH H hp tc++hp.drop H.length):=
  ⟨by simp[zca],fun j h1 h2=>by rw[zhu hlen,if_pos ⟨h1,h2⟩],fun j h1 h2=>by rw[zhu hlen,if_neg (by simp[h2])]⟩
theorem Lft.kp {H hp:List AB}{tc:List Nat}{H':List AB}(h:Lft H hp tc H'):Kp tc H H':=⟨h.len,h.old⟩
theorem Lft.same {H hp:List AB}{tc:List Nat}{H':List AB}(h:Lft H hp tc H')(k:Kp tc H hp)(j:Nat)(hj:j<H.length):H'[j]?=hp[j]?:=by
  by_cases ht:j∈tc
  · exact h.got j hj ht
  · rw[h.old j hj ht,k.get j hj ht]
theorem zqb {C:Cfg}{n f:Nat}{fn:AFunc}{first captured args:List AV}{H:List AB}{Q:CRes→List AB→List Nat→Prop}(hc:C.calm=true)(hx:C.ext f=none)(hxh:C.exth f=none)(hf:C.fns f=some fn)(hw:C.whole f=true)
    (hlen:(first++args++captured).length≤fn.ntmps)
    (h:Does (ev C (Ev.call C n) H.length none fn.body { tm:=tmA fn.ntmps (zipI 0 (first++args++captured) []),df:=[],hp:=H,tc:=[] }) fun e st=>∃ x st',finish C H.length fn e st=some (x,st')∧H.length≤st'.hp.length∧Q x st'.hp st'.tc):
    ∃ x hp tc H',Ev.call C (n+1) (.fn (.func f) first captured) args H=some (x,H',tc)∧Q x hp tc∧Lft H hp tc H'∧(refs x.val≠[]∨tc≠[]→H'.length=hp.length∧∀ j,H.length≤j→H'[j]?=hp[j]?)∧(refs x.val=[]→tc=[]→H'=H):=by
  have := zxm (n := n) (R := fun x H' tc => ∃ hp, Q x hp tc ∧ Lft H hp tc H' ∧ (refs x.val ≠ [] ∨ tc ≠ [] → H'.length = hp.length ∧ ∀ j, H.length ≤ j → H'[j]? = hp[j]?) ∧ (refs x.val = [] → tc = [] → H' = H)) hc hx hxh hf hw hlen (by
    refine h.mono fun e st ⟨x,st',h1,h2,h3⟩=>⟨x,st',h1,?_⟩
    unfold Left
    split
    · rename_i hb
      simp only[bareQ,Bool.and_eq_true,List.isEmpty_iff] at hb
      rw[hb.1] at h3
      exact ⟨_,h3,⟨Nat.le_refl _,fun _ _ _=>rfl,fun j _ hj=>by cases hj⟩,fun hr=>hr.elim (absurd hb.2) (absurd rfl),fun _ _=>rfl⟩
    · rename_i hb
      exact ⟨_,h3,zzg h2,fun _=>⟨by simp[zca];omega,fun j hj=>by rw[zhu h2,if_neg (by omega)]⟩,fun h1 h2=>absurd (by simp[bareQ,h1,h2]) hb⟩)
  obtain ⟨x,H',tc,h1,hp,h2,h3,h4⟩:=this
  exact ⟨x,hp,tc,H',h1,h2,h3,h4⟩
def Ends (C:Cfg)(pin:Nat)(res:List ARes)(Q:AV→List AB→List Nat→Prop)(e:AExit)(st:St):Prop:=
  (e=.ret∨e=.normal)∧∃ st',runDefs C pin st.df none st=some (none,st')∧pin≤st'.hp.length∧∃ v,(resL st' res).map resV=some v∧Q v st'.hp st'.tc
theorem ziw {C:Cfg}{pin:Nat}{fn:AFunc}{Q:AV→List AB→List Nat→Prop}{e:AExit}{st:St}(h:Ends C pin fn.res Q e st):∃ x st',finish C pin fn e st=some (x,st')∧pin≤st'.hp.length∧(∃ v,x=.ret v∧Q v st'.hp st'.tc):=by
  obtain ⟨he,st',h1,h2,v,h3,h4⟩:=h
  refine ⟨.ret v,st',?_,h2,v,rfl,h4⟩
  have : (match runDefs C pin st.df none st with
    |some (none,st)=>(resL st fn.res).map fun vs=>(CRes.ret (resV vs),st)
    |_=>none)=some (.ret v,st'):=by
    rw[h1]
    simp only
    cases hr:resL st' fn.res with
    |none=>rw[hr] at h3;cases h3
    |some vs=>rw[hr] at h3;cases h3;rfl
  rcases he with rfl|rfl<;>exact this
theorem zao {C:Cfg}{pin:Nat}{res:List ARes}{Q:AV→List AB→List Nat→Prop}{e:AExit}{st:St}{v:AV}(he:e=.ret∨e=.normal)(hd:st.df=[])(hl:pin≤st.hp.length)(hr:(resL st res).map resV=some v)(hq:Q v st.hp st.tc):Ends C pin res Q e st:=
  ⟨he,st,by rw[hd];rfl,hl,v,hr,hq⟩
theorem zsc {C:Cfg}{pin:Nat}{fn:AFunc}{v:AV}{st:St}(hd:st.df=[]):finish C pin fn (.panic v) st=some (.pan v,st):=by
  show (match runDefs C pin st.df (some v) st with
    |some (none,st)=>(resL st fn.res).map fun vs=>(CRes.ret (resV vs),st)
    |some (some v,st)=>some (.pan v,st)
    |none=>none)=_
  rw[hd];rfl
theorem zbo {C:Cfg}{n f:Nat}{fn:AFunc}{first captured args:List AV}{H:List AB}{Q:AV→List AB→List Nat→Prop}(hc:C.calm=true)(hx:C.ext f=none)(hxh:C.exth f=none)(hf:C.fns f=some fn)(hw:C.whole f=true)
    (hlen:(first++args++captured).length≤fn.ntmps)
    (h:Does (ev C (Ev.call C n) H.length none fn.body { tm:=tmA fn.ntmps (zipI 0 (first++args++captured) []),df:=[],hp:=H,tc:=[] }) (Ends C H.length fn.res Q)):
    ∃ v hp tc H',Ev.call C (n+1) (.fn (.func f) first captured) args H=some (.ret v,H',tc)∧Q v hp tc∧Lft H hp tc H'∧(refs v≠[]∨tc≠[]→H'.length=hp.length∧∀ j,H.length≤j→H'[j]?=hp[j]?)∧(refs v=[]→tc=[]→H'=H):=by
  obtain ⟨x,hp,tc,H',h1,⟨v,rfl,h2⟩,h3,h4⟩:=zqb (Q:=fun x hp tc=>∃ v,x=.ret v∧Q v hp tc) hc hx hxh hf hw hlen (h.mono fun e st he=>ziw he)
  exact ⟨v,hp,tc,H',h1,h2,h3,h4⟩
structure Rnd (H hp:List AB) (tc:List Nat) (l:Nat) (r:ALoop) (H':List AB):Prop where
  len:H.length≤H'.length
  here:H'[l]?=some (.loop r)
  old:∀ j,j<H.length→j∉tc→j≠l→H'[j]?=H[j]?
  got:∀ j,j<H.length→j∈tc→j≠l→H'[j]?=hp[j]?
  new:∀ j,H.length≤j→H'[j]?=hp[j]?
theorem zji {C:Cfg}{n l:Nat}{args:List AV}{H:List AB}{r:ALoop}{Q:AExit→List AB→List Nat→Prop}(hc:C.calm=true)(hl:H[l]?=some (.loop r))(hr:r.st=.ready)(hpd:r.pend=none)(hn:args.length=r.params.length)
    (h : Does (ev C (Ev.call C n) H.length (some l) r.assign { tm := setParams r.tm r.params args, df := [], hp := H, tc := [] }) fun e st => e = .normal ∧ st.hp[l]? = some (.loop r) ∧
      Does (ev C (Ev.call C n) H.length (some l) r.body { st with hp:=st.hp.set l (.loop { r with st:=.busy }),tc:=l::st.tc }) fun e st=>(∀ v,e≠.panic v)∧st.hp[l]?=some (.loop { r with st:=.busy })∧H.length≤st.hp.length∧Q e st.hp st.tc):
    ∃ b e hp tc H',Ev.call C (n+1) (.yield l) args H=some (.ret (.bool b),H',l::tc)∧(b=true↔e=.normal)∧Q e hp tc∧Rnd H hp tc l (if b then r else { r with st:=.done,pend:=some e }) H':=by
  have key:∀ (st:St) (x:AB),H.length≤st.hp.length→∀ j,(overH H (st.hp.set l x) (l::st.tc)++(st.hp.set l x).drop H.length)[j]?=if j<H.length∧j∉l::st.tc then H[j]? else (st.hp.set l x)[j]?:=fun st x hl j=>zhu (by simpa using hl) j
  have hll:=get_lt hl
  have fin : ∀ (st : St) (r' : ALoop), H.length ≤ st.hp.length → Rnd H st.hp st.tc l r' (overH H (st.hp.set l (.loop r')) (l :: st.tc) ++ (st.hp.set l (.loop r')).drop H.length) := fun st r' hlen => {
    len:=by simp[zca]
    here:=by rw[key _ _ hlen,if_neg (by simp),List.getElem?_set_self (by omega)]
    old:=fun j h1 h2 h3=>by rw[key _ _ hlen,if_pos ⟨h1,by simp[h2,h3]⟩]
    got:=fun j h1 h2 h3=>by rw[key _ _ hlen,if_neg (by simp[h2]),List.getElem?_set_ne (by omega)]
    new:=fun j h1=>by rw[key _ _ hlen,if_neg (by omega),List.getElem?_set_ne (by omega)] }
  have := zyi (n := n) (R := fun x H' tc => ∃ b e hp tc', x = .ret (.bool b) ∧ tc = l :: tc' ∧ (b = true ↔ e = .normal) ∧ Q e hp tc' ∧ Rnd H hp tc' l (if b then r else { r with st := .done, pend := some e }) H') hc hl hr hn (h.mono fun e st ⟨h1, h2, h3⟩ => ⟨h1, r, h2, hr, h3.mono fun e st ⟨h4, h5, h6, h7⟩ => by
    have back:({ { r with st:=.busy } with st:=.ready,pend:=none }:ALoop)=r:=by
      obtain ⟨a,b,c,d,e,f,g⟩:=r
      simp only at hr hpd;subst hr hpd;rfl
    cases e with
    |panic v=>exact absurd rfl (h4 v)
    |normal=>
      refine ⟨_,h5,true,.normal,st.hp,st.tc,rfl,rfl,by simp,h7,?_⟩
      rw[back]
      exact fin st r h6
    |exit i=>
      exact ⟨_,h5,false,.exit i,st.hp,st.tc,rfl,rfl,by simp,h7,fin st _ h6⟩
    |ret=>
      exact ⟨_,h5,false,.ret,st.hp,st.tc,rfl,rfl,by simp,h7,fin st _ h6⟩⟩)
  obtain ⟨x,H',tc,h1,b,e,hp,tc',rfl,rfl,h2,h3,h4⟩:=this
  exact ⟨b,e,hp,tc',H',h1,h2,h3,h4⟩
theorem zbe (d:Nat):(0≤(d:Int)+1)=True:=by simp;omega
theorem ge_of {α:Type}{l:List α}{i:Nat}{x:α}(h:l[i]?=some x):∀ h':i<l.length,l[i]'h'=x:=fun h'=>by rw[List.getElem?_eq_getElem h'] at h;exact Option.some.inj h
theorem zaz {C:Cfg}(hC:C.calm=true){call:CallF}{pin:Nat}{rd:Option Nat}{Q:AExit→St→Prop}{st:St}{c:AC}{live:List Nat}(n:Nat)(hn:n<fuelL)(P:Nat→St→Prop)(h0:P 0 { st with tm:=keepT live st.tm })
    (hround:∀ i st,i<n→P i st→Does (ev C call pin rd c st) (fun e st'=>match e with|.normal=>P (i+1) { st' with tm:=keepT live st'.tm }|e=>Q e st'))
    (hend:∀ st,P n st→Does (ev C call pin rd c st) (fun e st'=>match e with|.normal=>False|e=>Q e st')):Does (ev C call pin rd (.loop live c) st) Q:=by
  refine zix (fun q st=>q≤n∧P (n - q) st) n hn ⟨Nat.le_refl _,by rw[zcq hC,Nat.sub_self];exact h0⟩ ?_
  rintro q st ⟨hq,hP⟩
  by_cases h:q=0
  · subst h
    refine (hend st hP).mono fun e st' h=>?_
    cases e with
    |normal=>exact h.elim
    |exit i=>exact h
    |ret=>exact h
    |panic v=>exact h
  · refine (hround (n - q) st (by omega) hP).mono fun e st' h'=>?_
    cases e with
    |normal=>
      refine ⟨q - 1,by omega,by omega,?_⟩
      rw[zcq hC,show n - (q - 1)=n - q+1 by omega]
      exact h'
    |exit i=>exact h'
    |ret=>exact h'
    |panic v=>exact h'
theorem st_is {st:St}{tm:List AV}{df:List ADef}{hp:List AB}{tc:List Nat}(h1:st.tm=tm)(h2:st.df=df)(h3:st.hp=hp)(h4:st.tc=tc):st=⟨tm,df,hp,tc⟩:=by
  subst h1 h2 h3 h4;rfl
def Part {α:Type}(l:List α)(x:α)(i:Nat)(cs:List α):Prop:=cs=l.take i++List.replicate (l.length - i) x
theorem zvb {α:Type}(l:List α)(x:α):Part l x 0 (List.replicate l.length x):=by simp[Part]
theorem zyp {α:Type}{l:List α}{x:α}{i:Nat}{cs:List α}(h:Part l x i cs)(hi:i≤l.length):cs.length=l.length:=by
  rw[h];simp;omega
theorem zyq {α:Type}{l:List α}{x:α}{cs:List α}(h:Part l x l.length cs):cs=l:=by rw[h];simp
theorem zme {α:Type}{l:List α}{x v:α}{i:Nat}{cs:List α}(h:Part l x i cs)(hv:l[i]?=some v):Part l x (i+1) (cs.take i++v::cs.drop (i+1)):=by
  have hi:=(List.getElem?_eq_some_iff.1 hv).1
  have hl:(l.take i).length=i:=by simp;omega
  unfold Part at h ⊢
  subst h
  rw[List.take_append_of_le_length (by omega),List.take_of_length_le (by omega),List.drop_append,List.drop_eq_nil_of_le (by omega),hl,List.drop_replicate,List.take_add_one,hv]
  simp only[Option.toList_some,List.nil_append,List.append_assoc,List.singleton_append]
  rw[show i+1 - i=1 by omega,show l.length - i - 1=l.length - (i+1) by omega]
theorem zmf {α:Type}{l:List α}{x:α}{i:Nat}{cs:List α}(h:Part l x i cs)(hv:l[i]?=some x):Part l x (i+1) cs:=by
  have hi:=(List.getElem?_eq_some_iff.1 hv).1
  unfold Part at h ⊢
  subst h
  rw[List.take_add_one,hv,show l.length - i=l.length - (i+1)+1 by omega,List.replicate_succ]
  simp
end Ev
end Go.Proofs.YtimgnlellflciaaGreat

/- Package clamp, gone through: the yard; what befell a clamp. -/
namespace Go.Proofs.YtimgnlellflciaaGreat
open Go
namespace Ev
namespace K
attribute [local simp] ev1 wantG spineK spine float xnew xval xeff zaa zar zbb zau zav addFl cellsOf pickC alive slLen slFt binI maxA maxK minA minK aeqK aeqS AV.cells spA zas fillA setAt bitsI nat_nn zbe AV.plain apart
set_option maxRecDepth 100000
set_option maxHeartbeats 4000000
def pileE (p:Clm.Pl):AV:=.agg [.int .i64 p.long.lo,.int .i64 p.long.hi,.int .i64 p.wide.lo,.int .i64 p.wide.hi,.int .i64 p.high.lo,.int .i64 p.high.hi]
def evtE (e:Clm.Evt):AV:=.agg [.int .i64 e.kind,.int .i64 e.clamp,.int .i64 e.sods.lo,.int .i64 e.sods.hi]
def clampCs (c:Clm.Cl):List AV:=[.vs 6 (c.piles.map pileE),.int .i64 c.pack.lo,.int .i64 c.pack.hi,.vs 4 (c.events.map evtE)]
def bfA:Clm.Bf→AV
  |.nil=>.nilif
  |.sale s=>.iface 146 (.agg [.int .i64 s.lo,.int .i64 s.hi])
  |.count s=>.iface 148 (.agg [.int .i64 s.lo,.int .i64 s.hi])
theorem zjh (c:Clm.Cl)(number:Int)(counts i:Nat)(h:i<c.events.length)(h':i<(Clm.befell c number counts).length):(Clm.befell c number counts)[i]=if c.events[i].clamp≠number then .nil else if c.events[i].kind=0 then .sale c.events[i].sods else if Clm.bit counts i then .count c.events[i].sods else .nil:=by
  simp[Clm.befell]
theorem zxn {n d:Nat}(hd:d≤64):IntKind.u64.wrap ((BitVec.ofInt IntKind.u64.bits ((n:Int).fdiv (2 ^ (min ((d:Int).toNat) IntKind.u64.bits)))&&&BitVec.ofInt IntKind.u64.bits 1).toNat)=if n.testBit d then 1 else 0:=by
  have hb:IntKind.u64.bits=64:=rfl
  have hf:((n:Int).fdiv (2 ^ d))=((n / 2 ^ d:Nat):Int):=by
    rw[Int.fdiv_eq_ediv_of_nonneg _ (Int.pow_nonneg (by decide))];simp
  rw[show min ((d:Int).toNat) IntKind.u64.bits=d by rw[hb];omega,hf,hb]
  have h1:(BitVec.ofInt 64 ((n / 2 ^ d:Nat):Int)).toNat=(n / 2 ^ d) % 2 ^ 64:=by
    rw[BitVec.toNat_ofInt];omega
  have h2:(BitVec.ofInt 64 1).toNat=1:=by decide
  rw[BitVec.toNat_and,h1,h2,Nat.and_one_is_mod,Nat.testBit_eq_decide_div_mod_eq]
  generalize n / 2 ^ d=q at *
  have h3:q % 2 ^ 64 % 2=q % 2:=by omega
  rw[h3]
  by_cases hm:q % 2=1
  · rw[hm];rfl
  · rw[show q % 2=0 by omega];rfl
theorem zsy (C:Cfg)(hC:C.calm=true)(call:CallF)(H:List AB)(c:Clm.Cl)(hn:c.events.length≤6)(yb:Nat)(w:AV)(hy:H[yb]?=some (.cells (clampCs c++[w])))(number:Int)(counts:Nat):
    Does (ev C call H.length none af107.body { tm:=tmA af107.ntmps (zipI 0 [.ptr yb 0,.int .i64 number,.int .u64 counts] []),df:=[],hp:=H,tc:=[] }) (Ends C H.length af107.res fun v hp tc=>v=.sl H.length 0 c.events.length 1∧tc=[]∧∃ J,hp=H++.cells ((Clm.befell c number counts).map bfA)::J):=by
  obtain ⟨y0,y1,y2,y3,y4⟩:=bk hy
  unfold af107
  simp only[zipI,clampCs,List.cons_append,List.nil_append] at *
  have b1:c.events.length≤bound:=by unfold bound;omega
  (repeat (first|(with_reducible apply zad;(focus ((conv=>lhs;simp[*,Nat.testBit_eq_decide_div_mod_eq])<;>exact rfl));simp only[addFl])|((with_reducible first|apply zai|apply zak|apply zah|apply zaf|apply zac|apply zaj|apply zag|apply zam|(apply zae;· simp[*,zaa])|(apply zab;· simp[*,zaa]));try simp only[Then,Ops])))
  have hbl:=Clm.befell_len c number counts
  refine zaz hC c.events.length (by unfold fuelL;omega) (fun i st=>∃ cs J,Part ((Clm.befell c number counts).map bfA) .nilif i cs∧st={ tm:=tmA 60 [(23,.int .i64 i),(22,.int .i64 c.events.length),(21,.vs 4 (c.events.map evtE)),(7,.sl H.length 0 c.events.length 1),(2,.int .u64 counts),(1,.int .i64 number)],df:=[],hp:=H++.cells cs::J,tc:=[] }) ?_ ?_ ?_
  · refine ⟨_,[],?_,st_is (by simp[zan,zaq]) rfl rfl rfl⟩
    have:=zvb ((Clm.befell c number counts).map bfA) AV.nilif
    rwa [List.length_map,hbl] at this
  · rintro i st hi ⟨cs,J,hp,rfl⟩
    have hcl:=zyp hp (by simp;omega)
    rw[List.length_map,hbl] at hcl
    have hv:((Clm.befell c number counts).map bfA)[i]?=some (bfA (if c.events[i].clamp≠number then .nil else if c.events[i].kind=0 then .sale c.events[i].sods else if Clm.bit counts i then .count c.events[i].sods else .nil)):=by
      rw[List.getElem?_map,List.getElem?_eq_getElem (by omega),zjh];rfl
    have hbit:=zxn (n:=counts) (d:=i) (by omega)
    have hwi:IntKind.i64.wrap (↑i+1)=↑i+1:=zat (by omega) (by omega)
    have hP:=hideP (And.intro hp hv)
    clear hp hv
    have hn1:i+1≤c.events.length:=hi
    by_cases e1:c.events[i].clamp=number
    · by_cases e2:c.events[i].kind=0
      · have hv:=hP.out.2
        rw[if_neg (show ¬ (c.events[i].clamp≠number) from fun h=>h e1),if_pos e2] at hv
        have hQ:=hideP (zme hP.out.1 hv)
        clear hP hv
        (repeat (first|(with_reducible apply zad;(focus ((conv=>lhs;simp[*,evtE,Nat.testBit_eq_decide_div_mod_eq])<;>exact rfl));simp only[addFl])|((with_reducible first|apply zai|apply zak|apply zah|apply zaf|apply zac|apply zaj|apply zag|apply zam|(apply zae;· simp[*,zaa])|(apply zab;· simp[*,zaa]));try simp only[Then,Ops,OutB])|simp only[Nat.reduceEqDiff,reduceIte,OutB,Then]))
        with_reducible refine ⟨_,?_,hQ.out,?_⟩
        rotate_left
        refine st_is ?_ ?_ ?_ ?_
        · simp[zan,zaq]
        · rfl
        · rfl
        · rfl
      · cases hb:counts.testBit i
        · have hv:=hP.out.2
          rw[if_neg (show ¬ (c.events[i].clamp≠number) from fun h=>h e1),if_neg e2,if_neg (show ¬ (Clm.bit counts i=true) by simp[Clm.bit,hb])] at hv
          have hQ:=hideP (zmf hP.out.1 hv)
          clear hP hv
          rw[hb] at hbit
          simp at hbit
          (repeat (first|(with_reducible apply zad;(focus ((conv=>lhs;simp[*,evtE,Nat.testBit_eq_decide_div_mod_eq])<;>exact rfl));simp only[addFl])|((with_reducible first|apply zai|apply zak|apply zah|apply zaf|apply zac|apply zaj|apply zag|apply zam|(apply zae;· simp[*,zaa])|(apply zab;· simp[*,zaa]));try simp only[Then,Ops,OutB])|simp only[Nat.reduceEqDiff,reduceIte,OutB,Then]))
          with_reducible refine ⟨_,?_,hQ.out,?_⟩
          rotate_left
          refine st_is ?_ ?_ ?_ ?_
          · simp[zan,zaq]
          · rfl
          · rfl
          · rfl
        · have hv:=hP.out.2
          rw[if_neg (show ¬ (c.events[i].clamp≠number) from fun h=>h e1),if_neg e2,if_pos (show Clm.bit counts i=true by simp[Clm.bit,hb])] at hv
          have hQ:=hideP (zme hP.out.1 hv)
          clear hP hv
          rw[hb] at hbit
          simp at hbit
          (repeat (first|(with_reducible apply zad;(focus ((conv=>lhs;simp[*,evtE,Nat.testBit_eq_decide_div_mod_eq])<;>exact rfl));simp only[addFl])|((with_reducible first|apply zai|apply zak|apply zah|apply zaf|apply zac|apply zaj|apply zag|apply zam|(apply zae;· simp[*,zaa])|(apply zab;· simp[*,zaa]));try simp only[Then,Ops,OutB])|simp only[Nat.reduceEqDiff,reduceIte,OutB,Then]))
          with_reducible refine ⟨_,?_,hQ.out,?_⟩
          rotate_left
          refine st_is ?_ ?_ ?_ ?_
          · simp[zan,zaq]
          · rfl
          · rfl
          · rfl
    · have hv:=hP.out.2
      rw[if_pos e1] at hv
      have hQ:=hideP (zmf hP.out.1 hv)
      clear hP hv
      (repeat (first|(with_reducible apply zad;(focus ((conv=>lhs;simp[*,evtE,Nat.testBit_eq_decide_div_mod_eq])<;>exact rfl));simp only[addFl])|((with_reducible first|apply zai|apply zak|apply zah|apply zaf|apply zac|apply zaj|apply zag|apply zam|(apply zae;· simp[*,zaa])|(apply zab;· simp[*,zaa]));try simp only[Then,Ops,OutB])|simp only[Nat.reduceEqDiff,reduceIte,OutB,Then]))
      with_reducible refine ⟨_,?_,hQ.out,?_⟩
      rotate_left
      refine st_is ?_ ?_ ?_ ?_
      · simp[zan,zaq]
      · rfl
      · rfl
      · rfl
  · rintro st ⟨cs,J,hp,rfl⟩
    rw[show c.events.length=((Clm.befell c number counts).map bfA).length by simp[hbl]] at hp
    obtain rfl:=zyq hp
    clear hp
    (repeat (first|(with_reducible apply zad;(focus ((conv=>lhs;simp[*,Nat.testBit_eq_decide_div_mod_eq])<;>exact rfl));simp only[addFl])|((with_reducible first|apply zai|apply zak|apply zah|apply zaf|apply zac|apply zaj|apply zag|apply zam|(apply zae;· simp[*,zaa])|(apply zab;· simp[*,zaa]));try simp only[Then,Ops,OutB,reduceIte])))
    exact zao (.inl rfl) rfl (by simp) (by simp only[resL,resOf,zal];simp[resV]) ⟨rfl,rfl,J,rfl⟩
end K
end Ev
end Go.Proofs.YtimgnlellflciaaGreat

/- The log of a clamp, plainly: entry by entry. -/
namespace Go.Proofs.YtimgnlellflciaaGreat
open Go
namespace Clm
def fwd (l:List Bf)(k:Sp)(i:Nat):Sp:=(l.take i).foldl (fun k e=>e.after k) k
theorem fwd_succ {l:List Bf}{k:Sp}{i:Nat}{e:Bf}(h:l[i]?=some e):fwd l k (i+1)=e.after (fwd l k i):=by
  unfold fwd
  rw[List.take_add_one,h]
  simp
def bwd (l:List Bf)(k:Sp)(i:Nat):Sp:=(logs l k).getD i ⟨0,0⟩
theorem zwc (l:List Bf)(k:Sp):∃ x m,logs l k=x::m:=by
  cases l with
  |nil=>exact ⟨_,_,rfl⟩
  |cons e l=>exact ⟨_,_,rfl⟩
theorem bwd_last (l:List Bf)(k:Sp):bwd l k l.length=fwd l k l.length:=by
  unfold bwd fwd
  rw[List.getD_eq_getElem?_getD,zim,List.take_of_length_le (Nat.le_refl _)];rfl
theorem bwd_step:∀ {l:List Bf} {k:Sp} {i:Nat} {e:Bf},l[i]?=some e→bwd l k i=(fwd l k i).both (e.before (bwd l k (i+1)))
  |[],k,i,e,h=>by simp at h
  |e'::l,k,0,e,h=>by
    simp only[List.getElem?_cons_zero,Option.some.injEq] at h
    subst h
    obtain ⟨x,m,hx⟩:=zwc l (e'.after k)
    simp[bwd,fwd,logs,hx]
  |e'::l,k,i+1,e,h=>by
    have ih:=bwd_step (k:=e'.after k) (by simpa using h:l[i]?=some e)
    simp only[bwd,fwd,logs,List.getD_cons_succ,List.take_succ_cons,List.foldl_cons] at ih ⊢
    exact ih
theorem bwd_out {l:List Bf}{k:Sp}{i:Nat}(h:l.length<i):bwd l k i=⟨0,0⟩:=by
  unfold bwd
  rw[List.getD_eq_getElem?_getD,List.getElem?_eq_none (by rw[zqg];omega)];rfl
theorem bwd_head (l:List Bf)(k:Sp):bwd l k 0=(logs l k).headD Sp.no:=by
  obtain ⟨x,m,hx⟩:=zwc l k
  simp[bwd,hx]
structure Low (s:Sp):Prop where
  l0:0≤s.lo
  l1:s.lo≤10000
  h0:0≤s.hi
  h1:s.hi≤10000
def Bf.low:Bf→Prop
  |.nil=>True
  |.sale s=>0≤s.lo∧s.lo≤s.hi∧s.hi≤5000
  |.count s=>0≤s.lo∧s.lo≤s.hi∧s.hi≤5000
theorem zvz {e:Bf}(h:e.low){k:Sp}(hk:Low k):Low (e.after k):=by
  obtain ⟨a,b,c,d⟩:=hk
  cases e with
  |nil=>exact ⟨a,b,c,d⟩
  |sale s=>
    simp only[Bf.low] at h
    unfold Bf.after
    simp only
    split
    · exact ⟨by decide,by decide,by decide,by decide⟩
    · rename_i hh
      simp only[not_or,Int.not_lt] at hh
      exact ⟨by simp only;omega,by simp only;omega,by simp only;omega,by simp only;omega⟩
  |count s=>
    simp only[Bf.low] at h
    unfold Bf.after Sp.both
    simp only
    split
    · exact ⟨by decide,by decide,by decide,by decide⟩
    · exact ⟨by simp only;omega,by simp only;omega,by simp only;omega,by simp only;omega⟩
theorem low_fwd {l:List Bf}{k:Sp}(hl:∀ e∈l,e.low)(hk:Low k):∀ i,Low (fwd l k i)
  |0=>hk
  |i+1=>by
    cases h:l[i]? with
    |none=>
      have:=List.getElem?_eq_none_iff.1 h
      have e:fwd l k (i+1)=fwd l k i:=by unfold fwd;rw[List.take_of_length_le (by omega),List.take_of_length_le (by omega)]
      rw[e];exact low_fwd hl hk i
    |some e=>rw[fwd_succ h];exact zvz (hl e (List.mem_of_getElem? h)) (low_fwd hl hk i)
theorem zzd {k o:Sp}(hk:Low k):Low (k.both o):=by
  obtain ⟨a,b,c,d⟩:=hk
  unfold Sp.both
  split
  · exact ⟨by decide,by decide,by decide,by decide⟩
  · exact ⟨by simp only;omega,by simp only;omega,by simp only;omega,by simp only;omega⟩
theorem low_bwd {l:List Bf}{k:Sp}(hl:∀ e∈l,e.low)(hk:Low k)(i:Nat):Low (bwd l k i):=by
  rcases Nat.lt_trichotomy i l.length with h|h|h
  · rw[bwd_step (List.getElem?_eq_getElem h)];exact zzd (low_fwd hl hk i)
  · subst h;rw[bwd_last];exact low_fwd hl hk _
  · rw[bwd_out h];exact ⟨by decide,by decide,by decide,by decide⟩
theorem befell_low {c:Cl}(hc:Fine c)(number counts:Nat):∀ e∈befell c number counts,e.low:=by
  intro e he
  simp only[befell,List.mem_map] at he
  obtain ⟨⟨v,i⟩,hp,rfl⟩:=he
  have hv:v∈c.events:=by
    have:=List.mem_zipIdx hp
    obtain ⟨_,_,h⟩:=this
    simp only[h];exact List.getElem_mem _
  have:=hc.event v hv
  simp only
  split
  · trivial
  · split
    · exact ⟨this.2.2.1,this.2.2.2.1,this.2.2.2.2.1⟩
    · split
      · exact ⟨this.2.2.1,this.2.2.2.1,this.2.2.2.2.1⟩
      · trivial
end Clm
end Go.Proofs.YtimgnlellflciaaGreat

/- Package clamp, gone through: what is kept; arrays of spans. -/
namespace Go.Proofs.YtimgnlellflciaaGreat
open Go
namespace Ev
namespace K
set_option maxRecDepth 100000
set_option maxHeartbeats 4000000
def arr7 (f:Nat→Clm.Sp):List AV:=[.int .i64 (f 0).lo,.int .i64 (f 0).hi,.int .i64 (f 1).lo,.int .i64 (f 1).hi,.int .i64 (f 2).lo,.int .i64 (f 2).hi,.int .i64 (f 3).lo,.int .i64 (f 3).hi,.int .i64 (f 4).lo,.int .i64 (f 4).hi,.int .i64 (f 5).lo,.int .i64 (f 5).hi,.int .i64 (f 6).lo,.int .i64 (f 6).hi]
theorem zdf (f:Nat→Clm.Sp):(arr7 f).length=14:=rfl
theorem zdy (f:Nat→Clm.Sp){i:Nat}(h:i<7):List.take 2 (List.drop (i * 2) (arr7 f))=[.int .i64 (f i).lo,.int .i64 (f i).hi]:=by
  match i,h with
  |0,_|1,_|2,_|3,_|4,_|5,_|6,_=>rfl
def upd (f:Nat→Clm.Sp)(i:Nat)(s:Clm.Sp):Nat→Clm.Sp:=fun j=>if j=i then s else f j
theorem zll (f:Nat→Clm.Sp){i:Nat}(h:i<7)(a b:Int):List.take (i * 2) (arr7 f)++.int .i64 a::.int .i64 b::List.drop (i * 2+2) (arr7 f)=arr7 (upd f i ⟨a,b⟩):=by
  match i,h with
  |0,_|1,_|2,_|3,_|4,_|5,_|6,_=>rfl
theorem zia (f:Nat→Clm.Sp):List.take 14 (arr7 f)=arr7 f:=rfl
theorem zhd (f:Nat→Clm.Sp):(arr7 f).all AV.plain=true:=rfl
theorem yaf {f g:Nat→Clm.Sp}(h:∀ i,i<7→f i=g i):arr7 f=arr7 g:=by
  unfold arr7
  rw[h 0 (by decide),h 1 (by decide),h 2 (by decide),h 3 (by decide),h 4 (by decide),h 5 (by decide),h 6 (by decide)]
structure Qn where
  num:Nat
  size:Clm.Size
  pack:Int
  counts:Nat
def Qn.sods (q:Qn):Int:=q.size.sods q.pack
def qA (q:Qn):AV:=.agg [.int .i64 q.num,.int .i64 q.size.l,.int .i64 q.size.w,.int .i64 q.size.h,.int .i64 q.pack,.int .u64 q.counts]
def logF (c:Clm.Cl)(q:Qn):Nat→Clm.Sp:=Clm.bwd (Clm.befell c q.num q.counts) ⟨q.sods,q.sods⟩
def logA (c:Clm.Cl)(q:Qn):AV:=.agg (arr7 (logF c q))
def Memo (c:Clm.Cl)(es:List (AV × AV)):Prop:=∀ p∈es,∃ q,p=(qA q,logA c q)
theorem aeq_q (q r:Qn):∃ b,aeqK (.agg [true,true,true,true,true,true]) (qA q) (qA r)=some b∧(b=true→r=q):=by
  obtain ⟨n,⟨l,w,h⟩,p,k⟩:=q
  obtain ⟨n',⟨l',w',h'⟩,p',k'⟩:=r
  refine ⟨_,rfl,?_⟩
  simp only[Bool.and_eq_true,beq_iff_eq,Bool.and_true,and_imp]
  intro h1 h2 h3 h4 h5 h6
  have e1:n=n':=by omega
  have e2:k=k':=by omega
  subst e1 h2 h3 h4 h5 e2
  rfl
theorem zmm {c:Clm.Cl}(q:Qn):∀ {es:List (AV × AV)},Memo c es→findA (.agg [true,true,true,true,true,true]) (qA q) es=some none∨findA (.agg [true,true,true,true,true,true]) (qA q) es=some (some (logA c q))
  |[],_=>.inl rfl
  |(k,v)::es,h=>by
    obtain ⟨r,hr⟩:=h (k,v) (by simp)
    cases hr
    obtain ⟨b,hb,hq⟩:=aeq_q q r
    simp only[findA,hb]
    cases b with
    |true=>rw[hq rfl];exact .inr rfl
    |false=>exact zmm q fun p hp=>h p (by simp[hp])
theorem zqa {c:Clm.Cl}(q:Qn):∀ {es:List (AV × AV)},Memo c es→∃ es',putA (.agg [true,true,true,true,true,true]) (qA q) (logA c q) es=some es'∧Memo c es'
  |[],_=>⟨_,rfl,fun p hp=>⟨q,by simpa using hp⟩⟩
  |(k,v)::es,h=>by
    obtain ⟨r,hr⟩:=h (k,v) (by simp)
    cases hr
    obtain ⟨b,hb,hq⟩:=aeq_q q r
    simp only[putA,hb]
    cases b with
    |true=>
      refine ⟨_,rfl,fun p hp=>?_⟩
      rcases List.mem_cons.1 hp with rfl|hp
      · exact ⟨q,rfl⟩
      · exact h p (by simp[hp])
    |false=>
      obtain ⟨es',h1,h2⟩:=zqa q (es:=es) fun p hp=>h p (by simp[hp])
      rw[h1]
      refine ⟨_,rfl,fun p hp=>?_⟩
      rcases List.mem_cons.1 hp with rfl|hp
      · exact ⟨r,rfl⟩
      · exact h2 p hp
structure Yd (c:Clm.Cl) (yb mb:Nat) (H:List AB):Prop where
  ne:yb≠mb
  y:H[yb]?=some (.cells (clampCs c++[.map mb]))
  m:∃ es,H[mb]?=some (.map es)∧Memo c es
theorem Yd.kp {c:Clm.Cl}{yb mb:Nat}{H G:List AB}{S:List Nat}(h:Yd c yb mb H)(k:Kp S H G)(h1:yb∉S)(h2:mb∉S):Yd c yb mb G:=by
  obtain ⟨es,m1,m2⟩:=h.m
  exact ⟨h.ne,k.at h.y h1,es,k.at m1 h2,m2⟩
theorem Yd.app {c:Clm.Cl}{yb mb:Nat}{H:List AB}(h:Yd c yb mb H)(K:List AB):Yd c yb mb (H++K):=h.kp (Kp.app (S:=[]) H K) (by simp) (by simp)
structure QOk (q:Qn):Prop where
  l0:0≤q.size.l
  l1:q.size.l≤10
  w0:0≤q.size.w
  w1:q.size.w≤10
  h0:0≤q.size.h
  h1:q.size.h≤10
  p0:0≤q.pack
  p1:q.pack≤5
theorem QOk.sods {q:Qn}(h:QOk q):0≤q.sods∧q.sods≤5000:=by
  obtain ⟨a0,a1⟩:=mulB h.l0 h.l1 h.w0 h.w1
  obtain ⟨b0,b1⟩:=mulB a0 a1 h.h0 h.h1
  obtain ⟨c0,c1⟩:=mulB b0 b1 h.p0 h.p1
  exact ⟨c0,by unfold Qn.sods Clm.Size.sods;omega⟩
end K
end Ev
end Go.Proofs.YtimgnlellflciaaGreat

/- Package clamp, gone through: the log of a clamp, which is kept. -/
namespace Go.Proofs.YtimgnlellflciaaGreat
open Go
namespace Ev
namespace K
attribute [local simp] ev1 wantG spineK spine float xnew xval xeff zaa zar zbb zau zav addFl cellsOf pickC alive slLen slFt binI maxA maxK minA minK aeqK aeqS AV.cells spA zas fillA setAt bitsI nat_nn zbe AV.plain apart
set_option maxRecDepth 100000
set_option maxHeartbeats 4000000
def zero14:List AV:=[.int .i64 0,.int .i64 0,.int .i64 0,.int .i64 0,.int .i64 0,.int .i64 0,.int .i64 0,.int .i64 0,.int .i64 0,.int .i64 0,.int .i64 0,.int .i64 0,.int .i64 0,.int .i64 0]
def EventsC (call:CallF)(c:Clm.Cl):Prop:=∀ (H:List AB) (yb:Nat) (w:AV),H[yb]?=some (.cells (clampCs c++[w]))→∀ (number:Int) (counts:Nat),
  ∃ J,call (.fn (.func 107) [] []) [.ptr yb 0,.int .i64 number,.int .u64 counts] H=some (.ret (.sl H.length 0 c.events.length 1),H++.cells ((Clm.befell c number counts).map bfA)::J,[])
def SodsC (call:CallF):Prop:=∀ (H:List AB) (i l w h p:Int),0≤l→l≤10→0≤w→w≤10→0≤h→h≤10→0≤p→p≤10 →
  call (.fn (.func 35) [] []) [.agg [.int .i64 i,.int .i64 l,.int .i64 w,.int .i64 h,.int .i64 p]] H=some (.ret (.int .i64 (l * w * h * p)),H,[])
structure EvtC (call:CallF):Prop where
  sa:∀ H (s k:Clm.Sp),Clm.Low k→(Clm.Bf.sale s).low→call (.fn (.func 127) [] []) [.agg [.int .i64 s.lo,.int .i64 s.hi],.agg [.int .i64 k.lo,.int .i64 k.hi]] H=some (.ret (.agg [.int .i64 ((Clm.Bf.sale s).after k).lo,.int .i64 ((Clm.Bf.sale s).after k).hi]),H,[])
  sb:∀ H (s k:Clm.Sp),Clm.Low k→(Clm.Bf.sale s).low→call (.fn (.func 128) [] []) [.agg [.int .i64 s.lo,.int .i64 s.hi],.agg [.int .i64 k.lo,.int .i64 k.hi]] H=some (.ret (.agg [.int .i64 ((Clm.Bf.sale s).before k).lo,.int .i64 ((Clm.Bf.sale s).before k).hi]),H,[])
  ca:∀ H (s k:Clm.Sp),call (.fn (.func 129) [] []) [.agg [.int .i64 s.lo,.int .i64 s.hi],.agg [.int .i64 k.lo,.int .i64 k.hi]] H=some (.ret (.agg [.int .i64 ((Clm.Bf.count s).after k).lo,.int .i64 ((Clm.Bf.count s).after k).hi]),H,[])
  cb:∀ H (s k:Clm.Sp),call (.fn (.func 130) [] []) [.agg [.int .i64 s.lo,.int .i64 s.hi],.agg [.int .i64 k.lo,.int .i64 k.hi]] H=some (.ret (.agg [.int .i64 ((Clm.Bf.count s).before k).lo,.int .i64 ((Clm.Bf.count s).before k).hi]),H,[])
theorem ybb (C:Cfg)(call:CallF)(c:Clm.Cl)(H:List AB)(yb mb:Nat)(hY:Yd c yb mb H)(q:Qn)(es:List (AV × AV))(hm:H[mb]?=some (.map es))(hf:findA (.agg [true,true,true,true,true,true]) (qA q) es=some (some (logA c q))):
    Does (ev C call H.length none af103.body { tm:=tmA af103.ntmps (zipI 0 [.ptr yb 0,qA q] []),df:=[],hp:=H,tc:=[] }) (Ends C H.length af103.res fun v _hp tc=>v=logA c q∧tc=[]):=by
  obtain ⟨y0,y1,y2,y3,y4⟩:=bk hY.y
  obtain ⟨m0,m1,m2,m3,m4⟩:=bk hm
  unfold af103
  have hlen:=zdf (logF c q)
  have hall:=zia (logF c q)
  have hpl:=zhd (logF c q)
  simp only[zipI,clampCs,List.cons_append,List.nil_append,qA,logA] at *
  generalize arr7 (logF c q)=R at *
  (repeat (first|(with_reducible apply zad;(focus ((conv=>lhs;simp[*,keyOK,Nat.testBit_eq_decide_div_mod_eq])<;>exact rfl));simp only[addFl])|((with_reducible first|apply zai|apply zak|apply zah|apply zaf|apply zac|apply zaj|apply zag|apply zam|(apply zae;· simp[*,zaa])|(apply zab;· simp[*,zaa]));try simp only[Then,Ops])|simp only[Nat.reduceEqDiff,reduceIte,OutB,Then]))
  exact zao (.inl rfl) rfl (by simp) (by simp only[resL,resOf,zal];simp[*,pickC,resV]) ⟨rfl,rfl⟩
theorem zzf (C:Cfg)(hC:C.calm=true)(call:CallF)(c:Clm.Cl)(hc:Clm.Fine c)(hEv:EventsC call c)(hSd:SodsC call)(hEt:EvtC call)(hB:BothC call)(H:List AB)(yb mb:Nat)(hY:Yd c yb mb H)(q:Qn)(hq:QOk q)(es es':List (AV × AV))(hm:H[mb]?=some (.map es))(hf:findA (.agg [true,true,true,true,true,true]) (qA q) es=some none)(hput:putA (.agg [true,true,true,true,true,true]) (qA q) (logA c q) es=some es'):
    Does (ev C call H.length none af103.body { tm:=tmA af103.ntmps (zipI 0 [.ptr yb 0,qA q] []),df:=[],hp:=H,tc:=[] }) (Ends C H.length af103.res fun v hp tc=>v=logA c q∧tc=[mb]∧hp[mb]?=some (.map es')):=by
  obtain ⟨y0,y1,y2,y3,y4⟩:=bk hY.y
  obtain ⟨m0,m1,m2,m3,m4⟩:=bk hm
  have hev:∀ K,∃ J,call (.fn (.func 107) [] []) [.ptr yb 0,.int .i64 q.num,.int .u64 q.counts] (H++K)=some (.ret (.sl (H++K).length 0 c.events.length 1),(H++K)++.cells ((Clm.befell c q.num q.counts).map bfA)::J,[]):=fun K=>hEv _ yb _ ((hY.app K).y) q.num q.counts
  obtain ⟨J,hJ⟩:=Classical.skolem.1 hev
  clear hev
  have hsd:=fun H=>hSd H q.num q.size.l q.size.w q.size.h q.pack hq.l0 hq.l1 hq.w0 hq.w1 hq.h0 hq.h1 hq.p0 (by have:=hq.p1;omega)
  have hsq:=hq.sods
  have hsq':q.size.l * q.size.w * q.size.h * q.pack=q.sods:=rfl
  rw[hsq'] at hsd
  have hn:=hc.events
  have hput':=hideP hput
  unfold af103
  simp only[zipI,clampCs,List.cons_append,List.nil_append,qA,List.append_assoc,List.length_append] at *
  clear hEv hSd hsq' hput
  (repeat (first|(with_reducible apply zad;(focus ((conv=>lhs;simp[*,keyOK,Nat.testBit_eq_decide_div_mod_eq])<;>exact rfl));simp only[addFl])|((with_reducible first|apply zai|apply zak|apply zah|apply zaf|apply zac|apply zaj|apply zag|apply zam|(apply zae;· simp[*,zaa])|(apply zab;· simp[*,zaa]));try simp only[Then,Ops])|simp only[Nat.reduceEqDiff,reduceIte,OutB,Then]))
  obtain ⟨J0,hJ0⟩:∃ J0,J0=J [.cells [.int .i64 q.num,.int .i64 q.size.l,.int .i64 q.size.w,.int .i64 q.size.h,.int .i64 q.pack,.int .u64 q.counts],.cells zero14,.cells zero14]:=⟨_,rfl⟩
  obtain ⟨G,hG⟩:∃ G,G=H++.cells [.int .i64 q.num,.int .i64 q.size.l,.int .i64 q.size.w,.int .i64 q.size.h,.int .i64 q.pack,.int .u64 q.counts]::.cells zero14::.cells zero14::.cells ((Clm.befell c q.num q.counts).map bfA)::J0:=⟨_,rfl⟩
  have e0:G[yb]?=some (.cells [.vs 6 (c.piles.map pileE),.int .i64 c.pack.lo,.int .i64 c.pack.hi,.vs 4 (c.events.map evtE),.map mb]):=by rw[hG];exact (List.getElem?_append_left y0).trans hY.y
  have e1:G[mb]?=some (.map es):=by rw[hG];exact (List.getElem?_append_left m0).trans hm
  have e2:G[H.length]?=some (.cells [.int .i64 q.num,.int .i64 q.size.l,.int .i64 q.size.w,.int .i64 q.size.h,.int .i64 q.pack,.int .u64 q.counts]):=by rw[hG];simp
  have e3:G[H.length+1]?=some (.cells zero14):=by rw[hG];simp
  have e4:G[H.length+3]?=some (.cells ((Clm.befell c q.num q.counts).map bfA)):=by rw[hG];simp
  have gl:G.length=H.length+(J0.length+1+1+1+1):=by rw[hG];simp
  clear y0 y1 y2 y3 y4 m0 m1 m2 m3 m4
  obtain ⟨y0,y1,y2,y3,y4⟩:=bk e0
  obtain ⟨m0,m1,m2,m3,m4⟩:=bk e1
  obtain ⟨b0,b1,b2,b3,b4⟩:=bk e2
  obtain ⟨d0,d1,d2,d3,d4⟩:=bk e3
  obtain ⟨v0,v1,v2,v3,v4⟩:=bk e4
  have g1:¬ G.length<H.length:=by omega
  have g2:∀ n,¬ G.length+n<H.length:=by omega
  have mH:mb<H.length:=get_lt hm
  have hbl:=Clm.befell_len c q.num q.counts
  have hlow:=Clm.befell_low hc q.num q.counts
  have hls:Clm.Low ⟨q.sods,q.sods⟩:=⟨hsq.1,by simp only;omega,hsq.1,by simp only;omega⟩
  with_reducible refine zaz hC c.events.length (by unfold fuelL;omega) (fun i st=>∃ f,(∀ j,j≤i→f j=Clm.fwd (Clm.befell c q.num q.counts) ⟨q.sods,q.sods⟩ j)∧(∀ j,i<j→f j=⟨0,0⟩)∧st={ tm:=tmA 102 [(43,.int .i64 i),(42,.int .i64 c.events.length),(41,.sl (H.length+3) 0 c.events.length 1),(8,.ptr G.length 0),(7,.sl (H.length+3) 0 c.events.length 1),(4,.ptr (H.length+1) 0),(3,.ptr H.length 0),(0,.ptr yb 0)],df:=[],hp:=G++[.cells (arr7 f)],tc:=[] }) ?_ ?_ ?_
  · refine ⟨fun j=>if j=0 then ⟨q.sods,q.sods⟩ else ⟨0,0⟩,fun j hj=>?_,fun j hj=>?_,?_⟩
    · obtain rfl:j=0:=by omega
      rfl
    · exact if_neg (by omega)
    · refine st_is ?_ rfl ?_ rfl
      · rw[gl,hJ0];simp[zan,zaq,zero14]
      · rw[hG,hJ0];simp[arr7,zero14]
  · rintro i st hi ⟨f,f1,f2,rfl⟩
    have hi7:i<7:=by omega
    have hi8:i+1<7:=by omega
    have hn1:i+1≤c.events.length:=hi
    have hwi:IntKind.i64.wrap (↑i+1)=↑i+1:=zat (by omega) (by omega)
    have hge:(Clm.befell c q.num q.counts)[i]?=some ((Clm.befell c q.num q.counts)[i]'(by omega)):=List.getElem?_eq_getElem _
    generalize (Clm.befell c q.num q.counts)[i]'(by omega)=e at hge
    have hfs:=Clm.fwd_succ (k:=⟨q.sods,q.sods⟩) hge
    rw[← f1 i (Nat.le_refl _)] at hfs
    have hlf:Clm.Low (f i):=by rw[f1 i (Nat.le_refl _)];exact Clm.low_fwd hlow hls i
    have hle:=hlow e (List.mem_of_getElem? hge)
    have t1:=zdy f hi7
    have hup:∀ s,upd f (i+1) s i=f i:=fun s=>if_neg (by omega)
    have t2:=fun a b=>zll f hi8 a b
    have t3:=fun s=>zdy (upd f (i+1) s) hi7
    simp only[hup] at t3
    have t4:=fun s a b=>zll (upd f (i+1) s) hi8 a b
    have t5:=zdf
    have k1:i * 2+2≤14:=by omega
    have k2:(i+1) * 2+2≤14:=by omega
    have HS:=hideP (And.intro f1 (And.intro f2 hfs))
    have hi7':(i:Int)<7:=by omega
    have hi8':(i:Int)+1<7:=by omega
    have hge':=ge_of hge
    clear hG
    clear f1 f2 hq hsq hput' hc hsd hJ hJ0 gl hlow hls hY hm
    have next:∀ s,s=Clm.Bf.after e (f i)→(∀ j,j≤i+1→upd f (i+1) s j=Clm.fwd (Clm.befell c q.num q.counts) ⟨q.sods,q.sods⟩ j)∧(∀ j,i+1<j→upd f (i+1) s j=⟨0,0⟩):=by
      obtain ⟨f1,f2,hfs⟩:=HS.out
      rintro s rfl
      refine ⟨fun j hj=>?_,fun j hj=>?_⟩
      · by_cases h:j=i+1
        · subst h;rw[hfs];exact if_pos rfl
        · exact (if_neg h).trans (f1 j (by omega))
      · exact (if_neg (by omega)).trans (f2 j (by omega))
    have next2:∀ s t,t=Clm.Bf.after e (f i)→upd (upd f (i+1) s) (i+1) t=upd f (i+1) t:=by
      intro s t _
      funext j
      unfold upd
      split<;>rfl
    have HN:=hideP (And.intro next next2)
    clear next next2 HS hfs
    cases e with
    |nil=>
      clear hEt
      (repeat (first|(with_reducible apply zad;(focus ((conv=>lhs;simp[*,keyOK,bfA,List.lookup,Nat.testBit_eq_decide_div_mod_eq])<;>exact rfl));simp only[addFl])|((with_reducible first|apply zai|apply zak|apply zah|apply zaf|apply zac|apply zaj|apply zag|apply zam|(apply zae;· simp[*,zaa])|(apply zab;· simp[*,zaa]));try simp only[Then,Ops,OutB])|simp only[Nat.reduceEqDiff,reduceIte,OutB,Then]))
      obtain ⟨next,next2⟩:=HN.out
      with_reducible refine ⟨_,(next _ rfl).1,(next _ rfl).2,?_⟩
      refine st_is ?_ rfl ?_ rfl
      · simp[zan,zaq]
      · rfl
    |sale s=>
      have sa:=fun H=>hEt.sa H s (f i) hlf hle
      clear hEt hlf hle
      (repeat (first|(with_reducible apply zad;(focus ((conv=>lhs;simp[*,keyOK,bfA,List.lookup,Nat.testBit_eq_decide_div_mod_eq])<;>exact rfl));simp only[addFl])|((with_reducible first|apply zai|apply zak|apply zah|apply zaf|apply zac|apply zaj|apply zag|apply zam|(apply zae;· simp[*,zaa])|(apply zab;· simp[*,zaa]));try simp only[Then,Ops,OutB])|simp only[Nat.reduceEqDiff,reduceIte,OutB,Then]))
      obtain ⟨next,next2⟩:=HN.out
      with_reducible refine ⟨_,(next _ rfl).1,(next _ rfl).2,?_⟩
      refine st_is ?_ rfl ?_ rfl
      · simp[zan,zaq]
      · rw[next2 _ _ rfl]
    |count s=>
      have sa:=fun H=>hEt.ca H s (f i)
      clear hEt hlf hle
      (repeat (first|(with_reducible apply zad;(focus ((conv=>lhs;simp[*,keyOK,bfA,List.lookup,Nat.testBit_eq_decide_div_mod_eq])<;>exact rfl));simp only[addFl])|((with_reducible first|apply zai|apply zak|apply zah|apply zaf|apply zac|apply zaj|apply zag|apply zam|(apply zae;· simp[*,zaa])|(apply zab;· simp[*,zaa]));try simp only[Then,Ops,OutB])|simp only[Nat.reduceEqDiff,reduceIte,OutB,Then]))
      obtain ⟨next,next2⟩:=HN.out
      with_reducible refine ⟨_,(next _ rfl).1,(next _ rfl).2,?_⟩
      refine st_is ?_ rfl ?_ rfl
      · simp[zan,zaq]
      · rw[next2 _ _ rfl]
  · rintro st ⟨f,f1,f2,rfl⟩
    have hwn:IntKind.i64.wrap (↑c.events.length - 1)=↑c.events.length - 1:=zat (by omega) (by omega)
    clear hG gl hJ0 hJ
    have HF:=hideP (And.intro f1 f2)
    clear f1 f2
    (repeat (first|(with_reducible apply zad;(focus ((conv=>lhs;simp[*,keyOK,Nat.testBit_eq_decide_div_mod_eq])<;>exact rfl));simp only[addFl])|((with_reducible first|apply zai|apply zak|apply zah|apply zaf|apply zac|apply zaj|apply zag|apply zam|(apply zae;· simp[*,zaa])|(apply zab;· simp[*,zaa]));try simp only[Then,Ops,OutB,reduceIte])|simp only[Nat.reduceEqDiff,reduceIte,OutB,Then]))
    obtain ⟨f1,f2⟩:=HF.out
    with_reducible refine zaz hC c.events.length (by unfold fuelL;omega) (fun r st=>∃ f J,(∀ j,j<c.events.length - r→f j=Clm.fwd (Clm.befell c q.num q.counts) ⟨q.sods,q.sods⟩ j)∧(∀ j,c.events.length - r≤j→f j=Clm.bwd (Clm.befell c q.num q.counts) ⟨q.sods,q.sods⟩ j)∧st={ tm:=tmA 102 [(12,.int .i64 (((c.events.length - r:Nat):Int) - 1)),(8,.ptr G.length 0),(7,.sl (H.length+3) 0 c.events.length 1),(4,.ptr (H.length+1) 0),(3,.ptr H.length 0),(0,.ptr yb 0)],df:=[],hp:=G++.cells (arr7 f)::J,tc:=[] }) ?_ ?_ ?_
    · refine ⟨f,[],fun j hj=>f1 j (by omega),fun j hj=>?_,?_⟩
      · rw[Nat.sub_zero] at hj
        rcases Nat.lt_or_eq_of_le hj with h|h
        · rw[f2 j h,Clm.bwd_out (by omega)]
        · subst h
          rw[f1 _ (Nat.le_refl _)]
          have:=Clm.bwd_last (Clm.befell c q.num q.counts) ⟨q.sods,q.sods⟩
          rw[hbl] at this;exact this.symm
      · refine st_is ?_ rfl rfl rfl
        simp[zan,zaq]
    · clear f1 f2 HF f
      rintro r st hr ⟨f,J,f1,f2,rfl⟩
      obtain ⟨i,hi⟩:∃ i,c.events.length - r=i+1:=⟨c.events.length - r - 1,by omega⟩
      have hin:i<c.events.length:=by omega
      rw[hi] at f1 f2
      have hi7:i<7:=by omega
      have hi8:i+1<7:=by omega
      have hi7':(i:Int)<7:=by omega
      have hi8':(i:Int)+1<7:=by omega
      have hn1:i+1≤c.events.length:=hin
      have hwi:IntKind.i64.wrap (↑i+1)=↑i+1:=zat (by omega) (by omega)
      have hwj:IntKind.i64.wrap (↑i - 1)=↑i - 1:=zat (by omega) (by omega)
      have hge:(Clm.befell c q.num q.counts)[i]?=some ((Clm.befell c q.num q.counts)[i]'(by omega)):=List.getElem?_eq_getElem _
      generalize (Clm.befell c q.num q.counts)[i]'(by omega)=e at hge
      have hge':=ge_of hge
      have hfs:=Clm.bwd_step (k:=⟨q.sods,q.sods⟩) hge
      rw[← f1 i (by omega),← f2 (i+1) (by omega)] at hfs
      have hlf:Clm.Low (f (i+1)):=by rw[f2 (i+1) (by omega)];exact Clm.low_bwd hlow hls _
      have hle:=hlow e (List.mem_of_getElem? hge)
      have t1:=zdy f hi7
      have t2:=zdy f hi8
      have t4:=fun a b=>zll f hi7 a b
      have t5:=zdf
      have k1:i * 2+2≤14:=by omega
      have k2:(i+1) * 2+2≤14:=by omega
      have hbt:=fun H=>hB H (f i) (e.before (f (i+1)))
      have next:∀ s,s=(f i).both (e.before (f (i+1)))→(∀ j,j<c.events.length - (r+1)→upd f i s j=Clm.fwd (Clm.befell c q.num q.counts) ⟨q.sods,q.sods⟩ j)∧(∀ j,c.events.length - (r+1)≤j→upd f i s j=Clm.bwd (Clm.befell c q.num q.counts) ⟨q.sods,q.sods⟩ j):=by
        rintro s rfl
        rw[show c.events.length - (r+1)=i by omega]
        refine ⟨fun j hj=>(if_neg (by omega)).trans (f1 j (by omega)),fun j hj=>?_⟩
        by_cases h:j=i
        · subst h;rw[hfs];exact if_pos rfl
        · exact (if_neg h).trans (f2 j (by omega))
      have hr1:c.events.length - (r+1)=i:=by omega
      rw[hi,show ((i+1:Nat):Int) - 1=i by omega]
      have HN:=hideP (And.intro next hr1)
      clear next hfs f1 f2 hq hsq hput' hc hsd hlow hls hY hm hi hr1 hwn
      cases e with
      |nil=>
        clear hEt
        simp only[Clm.Bf.before] at hbt
        (repeat (first|(with_reducible apply zad;(focus ((conv=>lhs;simp[*,keyOK,bfA,List.lookup,Nat.testBit_eq_decide_div_mod_eq])<;>exact rfl));simp only[addFl])|((with_reducible first|apply zai|apply zak|apply zah|apply zaf|apply zac|apply zaj|apply zag|apply zam|(apply zae;· simp[*,zaa])|(apply zab;· simp[*,zaa]));try simp only[Then,Ops,OutB])|simp only[Nat.reduceEqDiff,reduceIte,OutB,Then]))
        obtain ⟨next,hr1⟩:=HN.out
        with_reducible refine ⟨_,?_,(next _ rfl).1,(next _ rfl).2,?_⟩
        rotate_left
        · refine st_is ?_ ?_ ?_ ?_
          · simp[zan,zaq,hr1]
          · rfl
          · rfl
          · rfl
      |sale s=>
        have sa:=fun H=>hEt.sb H s (f (i+1)) hlf hle
        clear hEt hlf hle
        (repeat (first|(with_reducible apply zad;(focus ((conv=>lhs;simp[*,keyOK,bfA,List.lookup,Nat.testBit_eq_decide_div_mod_eq])<;>exact rfl));simp only[addFl])|((with_reducible first|apply zai|apply zak|apply zah|apply zaf|apply zac|apply zaj|apply zag|apply zam|(apply zae;· simp[*,zaa])|(apply zab;· simp[*,zaa]));try simp only[Then,Ops,OutB])|simp only[Nat.reduceEqDiff,reduceIte,OutB,Then]))
        obtain ⟨next,hr1⟩:=HN.out
        with_reducible refine ⟨_,?_,(next _ rfl).1,(next _ rfl).2,?_⟩
        rotate_left
        · refine st_is ?_ ?_ ?_ ?_
          · simp[zan,zaq,hr1]
          · rfl
          · rfl
          · rfl
      |count s=>
        have sa:=fun H=>hEt.cb H s (f (i+1))
        clear hEt hlf hle
        (repeat (first|(with_reducible apply zad;(focus ((conv=>lhs;simp[*,keyOK,bfA,List.lookup,Nat.testBit_eq_decide_div_mod_eq])<;>exact rfl));simp only[addFl])|((with_reducible first|apply zai|apply zak|apply zah|apply zaf|apply zac|apply zaj|apply zag|apply zam|(apply zae;· simp[*,zaa])|(apply zab;· simp[*,zaa]));try simp only[Then,Ops,OutB])|simp only[Nat.reduceEqDiff,reduceIte,OutB,Then]))
        obtain ⟨next,hr1⟩:=HN.out
        with_reducible refine ⟨_,?_,(next _ rfl).1,(next _ rfl).2,?_⟩
        rotate_left
        · refine st_is ?_ ?_ ?_ ?_
          · simp[zan,zaq,hr1]
          · rfl
          · rfl
          · rfl
    · clear f1 f2 HF f
      rintro st ⟨f,J,f1,f2,rfl⟩
      have hall:arr7 f=arr7 (logF c q):=yaf fun j _=>f2 j (by omega)
      rw[hall,Nat.sub_self]
      have hput:=hput'.out
      clear f1 f2 hq hsq hc hsd hlow hls hY hEt hB hwn hall hput'
      simp only[logA] at *
      have t1:=zdf (logF c q)
      have t2:=zia (logF c q)
      have t3:=zhd (logF c q)
      generalize arr7 (logF c q)=R at *
      have n1:∀ n,¬ mb=H.length+n:=by omega
      have n2:∀ n,¬ H.length+n=mb:=by omega
      have n3:∀ n,¬ H.length+n<H.length:=by omega
      (repeat (first|(with_reducible apply zad;(focus ((conv=>lhs;simp[*,keyOK,zero14,Nat.testBit_eq_decide_div_mod_eq])<;>exact rfl));simp only[addFl])|((with_reducible first|apply zai|apply zak|apply zah|apply zaf|apply zac|apply zaj|apply zag|apply zam|(apply zae;· simp[*,zaa])|(apply zab;· simp[*,zaa]));try simp only[Then,Ops,OutB,reduceIte])|simp only[Nat.reduceEqDiff,reduceIte,OutB,Then]))
      refine zao (.inl rfl) rfl (by simp;omega) (by simp only[resL,resOf,zal];simp[*,pickC,resV]) ⟨rfl,by simp,?_⟩
      simp[*]
end K
end Ev
end Go.Proofs.YtimgnlellflciaaGreat

/- Loops over functions that yield, with values that are not known. -/
namespace Go.Proofs.YtimgnlellflciaaGreat
open Go
namespace Ev
structure Yields {α:Type} (call:CallF) (l:Nat) (T:List Nat) (arg:α→AV) (L:List α) (S:List Nat) (U:List AB→Prop) (J:List α→List Nat→List AB→Prop) (E:List α→List AB→Prop):Prop where
  stable:∀ d W H H',J d W H→Kp S H H'→U H'→J d W H'
  step:∀ d s W H,d++[s] <+: L→J d W H→∃ b H' tc W',call (.yield l) [arg s] H=some (.ret (.bool b),H',tc)∧l∈tc∧(∀ j∈tc,j∈T++W)∧Kp tc H H'∧(∀ j∈W',j∈W∨H.length≤j)∧(b=true→J (d++[s]) W' H')∧(b=false→E (d++[s]) H')
theorem Rnd.same {H hp:List AB}{tc:List Nat}{l:Nat}{r:ALoop}{H':List AB}(h:Rnd H hp tc l r H')(k:Kp tc H hp)(j:Nat)(hj:j≠l):H'[j]?=hp[j]?:=by
  by_cases hl:j<H.length
  · by_cases ht:j∈tc
    · exact h.got j hl ht hj
    · rw[h.old j hl ht hj,k.get j hl ht]
  · exact h.new j (by omega)
theorem Rnd.kp {H hp : List AB} {tc : List Nat} {l : Nat} {r : ALoop} {H' : List AB} (h : Rnd H hp tc l r H') : Kp (l :: tc) H H' := ⟨h.len, fun b hb hs => by
  simp only[List.mem_cons,not_or] at hs
  exact h.old b hb hs.2 hs.1⟩
theorem setP1 (N t:Nat)(v:AV)(l:List (Nat × AV)):setParams (tmA N l) [t] [v]=tmA N ((t,v)::l):=rfl
theorem zfy {C:Cfg}{pin D:Nat}{res:List ARes}{Q:AV→List AB→List Nat→Prop}{e:AExit}{st:St}{v:AV}(he:e=.ret∨e=.normal)(hd:st.df=[.mark D])(hD:st.hp[D]?=some .dfr)(hp:pin≤D)(hl:pin≤st.hp.length)(hr:(resL { st with hp:=st.hp.set D .dead } res).map resV=some v)(hq:Q v (st.hp.set D .dead) st.tc):Ends C pin res Q e st:=by
  refine ⟨he,{ st with hp:=st.hp.set D .dead },?_,by simpa using hl,v,hr,hq⟩
  conv=>lhs;rw[hd]
  have:¬ D<pin:=by omega
  simp only[runDefs,hD,List.filter_cons,List.filter_nil,this,decide_false,Bool.false_eq_true,if_false,List.nil_append]
theorem zhj {C:Cfg}{call:CallF}{pin:Nat}{Q:AExit→St→Prop}{st:St}{g:Opnd}{ps:List Nat}{as bd:AC}{gf:Nat}{first captured:List AV}(hg:val C st.tm g=.fn (.func gf) first captured)
    (h:∀ r:ALoop,r=⟨.ready,none,st.tm,ps,as,bd,st.hp.length⟩→∃ x H tc,call (.fn (.func gf) first captured) [.yield (st.hp.length+1)] (st.hp++[.dfr,.loop r])=some (x,H,tc)∧RgEnd pin (st.hp.length+1) (.mark st.hp.length::st.df) st Q x H tc):
    Does (ev C call pin none (.rangeF g ps as bd) st) Q:=by
  refine ztc hg ?_
  have:=h _ rfl
  rw[List.append_assoc]
  exact this
def IterC {α:Type}(C:Cfg)(n:Nat)(gf:Nat)(first captured:List AV)(arg:α→AV)(L:List α)(S:List Nat)(Y:List AB→Prop)(pre:List AB→List Nat→Prop):Prop:=
  ∀ (H:List AB) (l:Nat) (T:List Nat) (J:List α→List Nat→List AB→Prop) (E:List α→List AB→Prop),pre H T→(∀ j∈T,j<H.length)→l∈T→J [] [] H→(∀ d W G,J d W G→Y G)→Yields (Ev.call C n) l T arg L S Y J E →
    ∃ H' tc,Ev.call C (n+1) (.fn (.func gf) first captured) [.yield l] H=some (.ret (.tup []),H',tc)∧(∀ j∈tc,j∈S++T)∧Kp tc H H'∧((∃ W,(∀ j∈W,H.length≤j)∧J L W H')∨∃ d,d <+: L∧E d H')
theorem lft_eq {H hp:List AB}{tc:List Nat}{H':List AB}{v:AV}(h:Lft H hp tc H')(k:Kp tc H hp)(n:refs v≠[]∨tc≠[]→H'.length=hp.length∧∀ j,H.length≤j→H'[j]?=hp[j]?)(hn:refs v≠[]∨tc≠[]):H'=hp:=by
  obtain ⟨_,n2⟩:=n hn
  refine List.ext_getElem? fun j=>?_
  by_cases hj:j<H.length
  · exact h.same k j hj
  · exact n2 j (by omega)
theorem zwf {α:Type}{C:Cfg}{n gf:Nat}{fn:AFunc}{first captured:List AV}{arg:α→AV}{L:List α}{S:List Nat}{Y:List AB→Prop}{pre:List AB→List Nat→Prop}(hc:C.calm=true)(hx:C.ext gf=none)(hxh:C.exth gf=none)(hf:C.fns gf=some fn)(hw:C.whole gf=true)(hlen:first.length+1+captured.length≤fn.ntmps)
    (h : ∀ (H : List AB) (l : Nat) (T : List Nat) (J : List α → List Nat → List AB → Prop) (E : List α → List AB → Prop), pre H T → (∀ j ∈ T, j < H.length) → l ∈ T → J [] [] H → (∀ d W G, J d W G → Y G) → Yields (Ev.call C n) l T arg L S Y J E →
      Does (ev C (Ev.call C n) H.length none fn.body { tm:=tmA fn.ntmps (zipI 0 (first++[.yield l]++captured) []),df:=[],hp:=H,tc:=[] })
        (Ends C H.length fn.res fun v hp tc=>v=.tup []∧(∀ j∈tc,j∈S++T)∧Kp tc H hp∧((∃ W,(∀ j∈W,H.length≤j)∧J L W hp∧(L=[]∨l∈tc))∨∃ d,d <+: L∧E d hp∧l∈tc))):IterC C n gf first captured arg L S Y pre:=by
  intro H l T J E h1 h2 h3 h4 h5 h6
  obtain ⟨v,hp,tc,H',c1,⟨rfl,c2,c3,c4⟩,c5,c6,c7⟩:=zbo hc hx hxh hf hw (by simp;omega) (h H l T J E h1 h2 h3 h4 h5 h6)
  refine ⟨H',tc,c1,c2,c5.same c3 |> fun hs=>⟨c5.len,fun b hb ht=>(hs b hb).trans (c3.get b hb ht)⟩,?_⟩
  rcases c4 with ⟨W,w1,w2,w3⟩|⟨d,d1,d2,d3⟩
  · rcases w3 with w3|w3
    · by_cases ht:tc=[]
      · rw[c7 rfl ht];subst w3;exact .inl ⟨[],by simp,h4⟩
      · rw[lft_eq c5 c3 c6 (.inr ht)];exact .inl ⟨W,w1,w2⟩
    · rw[lft_eq c5 c3 c6 (.inr (by intro h;rw[h] at w3;cases w3))];exact .inl ⟨W,w1,w2⟩
  · rw[lft_eq c5 c3 c6 (.inr (by intro h;rw[h] at d3;cases d3))];exact .inr ⟨d,d1,d2⟩
def RoundTo {α:Type}(l:Nat)(rz:ALoop)(T S W:List Nat)(Y:List AB→Prop)(G:List AB)(J:List Nat→List AB→Prop)(E:AExit→List AB→Prop)(_a:Option α)(e:AExit)(st:St):Prop:=
  (∀ v,e≠.panic v)∧st.hp[l]?=some (.loop rz)∧G.length≤st.hp.length∧(∀ j∈st.tc,j=l∨j∈T∨j∈S∨j∈W)∧Kp st.tc G st.hp∧Y st.hp∧(e=.normal→∃ W',(∀ j∈W',j∈W∨G.length≤j)∧J W' st.hp)∧(e≠.normal→E e st.hp)
theorem znc {α:Type}{C:Cfg}(hC:C.calm=true){n gf:Nat}{first captured:List AV}{arg:α→AV}{L:List α}{S:List Nat}{Y:List AB→Prop}{pre:List AB→List Nat→Prop}(hI:IterC C (n+1) gf first captured arg L S Y pre)
    {pin:Nat} {st:St} {g:Opnd} {ps:List Nat} {as bd:AC} {Q:AExit→St→Prop} (hg:val C st.tm g=.fn (.func gf) first captured) (hps:ps.length=1) (T:List Nat) (hT:∀ j∈T,j<st.hp.length) (hS:∀ j∈S,j<st.hp.length)
    (J:List α→List Nat→List AB→Prop) (E:AExit→List α→List AB→Prop)
    (hpre:∀ r:ALoop,pre (st.hp++[.dfr,.loop r]) ((st.hp.length+1)::(T++S)))
    (hYs:∀ G G',Y G→(∀ j,j≠st.hp.length+1→G'[j]?=G[j]?)→Y G')
    (hJ0:∀ r:ALoop,J [] [] (st.hp++[.dfr,.loop r])) (hY0:∀ r:ALoop,Y (st.hp++[.dfr,.loop r]))
    (hJs:∀ d W G G',J d W G→(∀ j,j<G.length→j∉S→j≠st.hp.length+1→G'[j]?=G[j]?)→J d W G')
    (hEs:∀ e d G G',E e d G→(∀ j,j≠st.hp.length+1→G'[j]?=G[j]?)→E e d G')
    (hround : ∀ d s W G rz, d ++ [s] <+: L → J d W G → Y G → st.hp.length + 2 ≤ G.length → (∀ j ∈ W, st.hp.length + 2 ≤ j) →
      Does (ev C (Ev.call C n) G.length (some (st.hp.length+1)) as { tm:=setParams st.tm ps [arg s],df:=[],hp:=G,tc:=[] }) fun e st1=>e=.normal∧st1.hp[st.hp.length+1]?=G[st.hp.length+1]? ∧
        Does (ev C (Ev.call C n) G.length (some (st.hp.length+1)) bd { st1 with hp:=st1.hp.set (st.hp.length+1) (.loop rz),tc:=(st.hp.length+1)::st1.tc }) (RoundTo (st.hp.length+1) rz T S W Y G (J (d++[s])) (fun e=>E e (d++[s])) (some s)))
    (hQ:∀ H' tc W,(∀ j∈tc,j<st.hp.length→j∈S++T)→Kp tc st.hp H'→Y H'→H'[st.hp.length]?=some .dfr→st.hp.length+2≤H'.length→(∀ j∈W,st.hp.length+2≤j)→J L W H'→Q .normal { st with df:=.mark st.hp.length::st.df,hp:=H',tc:=tc.filter (·<pin)++st.tc })
    (hE:∀ e d H' tc,e≠.normal→(∀ j∈tc,j<st.hp.length→j∈S++T)→Kp tc st.hp H'→Y H'→H'[st.hp.length]?=some .dfr→st.hp.length+2≤H'.length→d <+: L→E e d H'→Q e { st with df:=.mark st.hp.length::st.df,hp:=H',tc:=tc.filter (·<pin)++st.tc }):
    Does (ev C (Ev.call C (n+2)) pin none (.rangeF g ps as bd) st) Q:=by
  refine zhj hg fun r hr=>?_
  have ra:=congrArg ALoop.assign hr
  have rb:=congrArg ALoop.body hr
  have rt:=congrArg ALoop.tm hr
  have rp:=congrArg ALoop.params hr
  have rs:=congrArg ALoop.st hr
  have rq:=congrArg ALoop.pend hr
  clear hr
  simp only at ra rb rt rp rs rq
  have hlen0:(st.hp++[.dfr,.loop r]:List AB).length=st.hp.length+2:=by simp
  have hstep:Yields (Ev.call C (n+1)) (st.hp.length+1) ((st.hp.length+1)::(T++S)) arg L S Y
      (fun d W G=>J d W G∧Y G∧G[st.hp.length+1]?=some (.loop r)∧G[st.hp.length]?=some .dfr∧∀ j∈W,st.hp.length+2≤j)
      (fun d G=>∃ e,e≠.normal∧E e d G∧G[st.hp.length+1]?=some (.loop { r with st:=.done,pend:=some e })∧G[st.hp.length]?=some .dfr∧Y G):=by
    refine ⟨fun d W G G' ⟨h1,h2,h3,h4,h5⟩ k hy=>⟨hJs d W G G' h1 fun j hj hs _=>k.get j hj hs,hy,k.at h3 fun h=>by have:=hS _ h;omega,k.at h4 fun h=>by have:=hS _ h;omega,h5⟩,?_⟩
    rintro d s W G hpr ⟨h1,h2,h3,h4,h5⟩
    have hGl:=get_lt h3
    obtain ⟨b,e,hp,tc,H',c1,c2,⟨c3,c4,c5,c6,c7,c8⟩,c9⟩:=zji (C:=C) (n:=n) (l:=st.hp.length+1) (args:=[arg s]) (H:=G) (r:=r)
      (Q := fun e hp tc => (∀ v, e ≠ .panic v) ∧ (∀ j ∈ tc, j = st.hp.length + 1 ∨ j ∈ T ∨ j ∈ S ∨ j ∈ W) ∧ Kp tc G hp ∧ Y hp ∧ (e = .normal → ∃ W', (∀ j ∈ W', j ∈ W ∨ G.length ≤ j) ∧ J (d ++ [s]) W' hp) ∧ (e ≠ .normal → E e (d ++ [s]) hp)) hC h3 rs rq (by rw [rp]; simp [hps]) (by
        have:=hround d s W G { r with st:=.busy } hpr h1 h2 (by omega) h5
        rw[← ra,← rb,← rt,← rp] at this
        refine this.mono fun e st1 ⟨g1,g2,g3⟩=>⟨g1,g2.trans h3,g3.mono fun e st2 ⟨k1,k2,k3,k4,k5,k6,k7,k8⟩=>⟨k1,k2,k3,k1,k4,k5,k6,k7,k8⟩⟩)
    have hsm:=c9.same c5
    have hd:H'[st.hp.length]?=some .dfr:=by
      rw[hsm _ (by omega),c5.get _ (by omega) (fun h=>?_),h4]
      rcases c4 _ h with h|h|h|h
      · omega
      · have:=hT _ h;omega
      · have:=hS _ h;omega
      · have:=h5 _ h;omega
    have hl9:st.hp.length+1∈(st.hp.length+1)::tc:=by simp
    have hall:∀ j∈(st.hp.length+1)::tc,j∈(st.hp.length+1)::(T++S)++W:=by
      intro j hj
      simp only[List.cons_append,List.append_assoc,List.mem_cons,List.mem_append]
      rcases List.mem_cons.1 hj with h|h
      · exact .inl h
      · rcases c4 j h with h|h|h|h
        · exact .inl h
        · exact .inr (.inl h)
        · exact .inr (.inr (.inl h))
        · exact .inr (.inr (.inr h))
    by_cases he:e=.normal
    · have hb:=c2.2 he
      obtain ⟨W',w1,w2⟩:=c7 he
      subst hb
      rw[if_pos rfl] at c9
      refine ⟨true,H',_,W',c1,hl9,hall,c9.kp,w1,fun _=>⟨hJs _ _ _ _ w2 fun j _ _ hj=>hsm j hj,hYs _ _ c6 hsm,c9.here,hd,fun j hj=>?_⟩,fun h=>by cases h⟩
      rcases w1 j hj with h|h
      · exact h5 j h
      · omega
    · have hb:b=false:=by
        cases b with
        |false=>rfl
        |true=>exact absurd (c2.1 rfl) he
      subst hb
      rw[if_neg (by decide)] at c9
      exact ⟨false,H',_,[],c1,hl9,hall,c9.kp,by simp,(fun h=>by cases h),fun _=>⟨e,he,hEs _ _ _ _ (c8 he) hsm,c9.here,hd,hYs _ _ c6 hsm⟩⟩
  obtain ⟨H2, tc, c1, c2, c3, c4⟩ := hI (st.hp ++ [.dfr, .loop r]) (st.hp.length + 1) ((st.hp.length + 1) :: (T ++ S)) _ _ (hpre r) (by
    intro j hj
    rw[hlen0]
    rcases List.mem_cons.1 hj with h|h
    · omega
    · rcases List.mem_append.1 h with h|h
      · have:=hT j h;omega
      · have:=hS j h;omega) (by simp) ⟨hJ0 r,hY0 r,by simp,by simp,by simp⟩ (fun d W G h=>h.2.1) hstep
  refine ⟨_,H2,tc,c1,?_⟩
  have hlen2:st.hp.length+2≤H2.length:=by have:=c3.len;rw[hlen0] at this;exact this
  have hk : Kp tc st.hp (H2.set (st.hp.length + 1) .dead) := ⟨by simp; omega, fun b hb ht => by
    rw[List.getElem?_set_ne (by omega)];exact c3.pre.get b hb ht⟩
  have htc:∀ j∈tc,j<st.hp.length→j∈S++T:=by
    intro j hj hl
    rcases List.mem_append.1 (c2 j hj) with h|h
    · exact List.mem_append_left _ h
    · rcases List.mem_cons.1 h with h|h
      · omega
      · exact List.mem_append.2 (List.mem_append.1 h).symm
  have hset:∀ j,j≠st.hp.length+1→(H2.set (st.hp.length+1) .dead)[j]?=H2[j]?:=fun j hj=>by rw[List.getElem?_set_ne (by omega)]
  rcases c4 with ⟨W,w1,h1,h2,h3,h4,h5⟩|⟨d,d1,e,h0,h1,h2,h3,h4⟩
  · refine ⟨r,h3,by rw[rs];simp,?_⟩
    rw[rq]
    exact hQ _ tc W htc hk (hYs _ _ h2 hset) ((hset _ (by omega)).trans h4) (by simp;omega) h5 (hJs _ _ _ _ h1 fun j _ _ hj=>hset j hj)
  · refine ⟨_,h2,by simp,?_⟩
    exact hE e d _ tc h0 htc hk (hYs _ _ h4 hset) ((hset _ (by omega)).trans h3) (by simp;omega) d1 (hEs _ _ _ _ h1 hset)
end Ev
end Go.Proofs.YtimgnlellflciaaGreat

/- Package clamp, gone through: the sizes of a clamp, yielded. -/
namespace Go.Proofs.YtimgnlellflciaaGreat
open Go
namespace Clm
theorem span_len (s:Sp):(spanL s).length=(s.hi+1 - s.lo).toNat:=by simp[spanL]
theorem span_get (s:Sp){i:Nat}(h:i<(spanL s).length):(spanL s)[i]=s.lo+i:=by simp[spanL]
theorem zpu {α β:Type}(f:α→List β){xs:List α}{i:Nat}{x:α}(h:xs[i]?=some x){q:List β}(hq:q <+: f x):(xs.take i).flatMap f++q <+: xs.flatMap f:=by
  obtain ⟨t,ht⟩:=hq
  have hi:=(List.getElem?_eq_some_iff.1 h).1
  have hx:=(List.getElem?_eq_some_iff.1 h).2
  refine ⟨t++(xs.drop (i+1)).flatMap f,?_⟩
  conv=>rhs;rw[← List.take_append_drop i xs,List.drop_eq_getElem_cons hi,hx]
  simp[← ht]
theorem yao {α β:Type}(f:α→β){xs:List α}{i:Nat}{x:α}(h:xs[i]?=some x):(xs.take i).map f++[f x] <+: xs.map f:=by
  have hi:=(List.getElem?_eq_some_iff.1 h).1
  have hx:=(List.getElem?_eq_some_iff.1 h).2
  refine ⟨(xs.drop (i+1)).map f,?_⟩
  conv=>rhs;rw[← List.take_append_drop i xs,List.drop_eq_getElem_cons hi,hx]
  simp
theorem zmx {α β:Type}(f:α→List β){xs:List α}{i:Nat}{x:α}(h:xs[i]?=some x):(xs.take (i+1)).flatMap f=(xs.take i).flatMap f++f x:=by
  rw[List.take_add_one,h];simp
theorem zzb {α β:Type}(f:α→β){xs:List α}{i:Nat}{x:α}(h:xs[i]?=some x):(xs.take (i+1)).map f=(xs.take i).map f++[f x]:=by
  rw[List.take_add_one,h];simp
def szH (p:Pl)(l w:Int)(k:Nat):List Size:=((spanL p.high).take k).map fun h=>⟨l,w,h⟩
def szW (p:Pl)(l:Int)(k:Nat):List Size:=((spanL p.wide).take k).flatMap fun w=>(spanL p.high).map fun h=>⟨l,w,h⟩
def szL (p:Pl)(k:Nat):List Size:=((spanL p.long).take k).flatMap fun l=>(spanL p.wide).flatMap fun w=>(spanL p.high).map fun h=>⟨l,w,h⟩
theorem sz_all (p:Pl):szL p (spanL p.long).length=sizes p:=by unfold szL sizes;rw[List.take_length]
theorem sz_pre {p:Pl}{i j k:Nat}{l w h:Int}(hl:(spanL p.long)[i]?=some l)(hw:(spanL p.wide)[j]?=some w)(hh:(spanL p.high)[k]?=some h):(szL p i++szW p l j++szH p l w k)++[⟨l,w,h⟩] <+: sizes p:=by
  unfold szL szW szH sizes
  rw[List.append_assoc,List.append_assoc]
  refine zpu _ hl ?_
  refine zpu _ hw ?_
  exact yao _ hh
theorem szH_succ {p:Pl}{k:Nat}{h:Int}(l w:Int)(hh:(spanL p.high)[k]?=some h):szH p l w (k+1)=szH p l w k++[⟨l,w,h⟩]:=zzb _ hh
theorem szW_succ {p:Pl}{k:Nat}{w:Int}(l:Int)(hw:(spanL p.wide)[k]?=some w):szW p l (k+1)=szW p l k++szH p l w (spanL p.high).length:=by
  unfold szW szH;rw[zmx _ hw,List.take_length]
theorem szL_succ {p:Pl}{k:Nat}{l:Int}(hl:(spanL p.long)[k]?=some l):szL p (k+1)=szL p k++szW p l (spanL p.wide).length:=by
  unfold szL szW;rw[zmx _ hl,List.take_length]
end Clm
namespace Ev
namespace K
attribute [local simp] ev1 wantG spineK spine float xnew xval xeff zaa zar zbb zau zav addFl cellsOf pickC alive slLen slFt binI maxA maxK minA minK aeqK aeqS AV.cells spA zas fillA setAt bitsI nat_nn zbe AV.plain apart
set_option maxRecDepth 100000
set_option maxHeartbeats 4000000
def sizeA (n:Int)(s:Clm.Size)(pack:Int):AV:=.agg [.int .i64 n,.int .i64 s.l,.int .i64 s.w,.int .i64 s.h,.int .i64 pack]
theorem zrl (C:Cfg)(hC:C.calm=true)(call:CallF)(c:Clm.Cl)(hc:Clm.Fine c)(H:List AB)(yb:Nat)(w0:AV)(hy:H[yb]?=some (.cells (clampCs c++[w0])))(n:Nat)(hn:n<c.piles.length)(pack:Int)(b1 b2 b3 l:Nat)
    (h1:H[b1]?=some (.cells [.ptr yb 0])) (h2:H[b2]?=some (.cells [.int .i64 n])) (h3:H[b3]?=some (.cells [.int .i64 pack])) (T:List Nat) (J:List Clm.Size→List Nat→List AB→Prop) (E:List Clm.Size→List AB→Prop)
    (hT:∀ j∈T,j<H.length) (hb2:b2∉T) (hb3:b3∉T) (hJ0:J [] [] H)
    (hY:Yields call l T (fun s=>sizeA n s pack) (Clm.sizes c.piles[n]) [] (fun _=>True) J E):
    Does (ev C call H.length none af106.body { tm:=tmA af106.ntmps (zipI 0 [.yield l,.ptr b1 0,.ptr b2 0,.ptr b3 0] []),df:=[],hp:=H,tc:=[] })
      (Ends C H.length af106.res fun v hp tc=>v=.tup []∧(∀ j∈tc,j∈T)∧Kp tc H hp∧((∃ W,(∀ j∈W,H.length<j)∧J (Clm.sizes c.piles[n]) W hp)∨∃ d,d <+: Clm.sizes c.piles[n]∧E d hp)):=by
  have hpl:=hc.pile _ (List.getElem_mem hn)
  have hge:c.piles[n]?=some c.piles[n]:=List.getElem?_eq_getElem hn
  generalize c.piles[n]=p at *
  have hge':=ge_of hge
  have hn':(n:Int)<c.piles.length:=by omega
  obtain ⟨y0,y1,y2,y3,y4⟩:=bk hy
  obtain ⟨p0,p1,p2,p3,p4⟩:=bk h1
  obtain ⟨q0,q1,q2,q3,q4⟩:=bk h2
  obtain ⟨r0,r1,r2,r3,r4⟩:=bk h3
  have HY:=hideP hY
  have HJ:=hideP hJ0
  clear hY hJ0
  unfold af106
  simp only[zipI,clampCs,List.cons_append,List.nil_append] at *
  (repeat (first|(with_reducible apply zad;(focus ((conv=>lhs;simp[*,pileE,Nat.testBit_eq_decide_div_mod_eq])<;>exact rfl));simp only[addFl])|((with_reducible first|apply zai|apply zak|apply zah|apply zaf|apply zac|apply zaj|apply zag|apply zam|(apply zae;· simp[*,zaa])|(apply zab;· simp[*,zaa]));try simp only[Then,Ops])|simp only[Nat.reduceEqDiff,reduceIte,OutB,Then]))
  have hY:=HY.out
  have hnl:=Clm.span_len p.long
  have hnw:=Clm.span_len p.wide
  have hnh:=Clm.span_len p.high
  have gl:=fun i (h:i<(Clm.spanL p.long).length)=>(List.getElem?_eq_getElem h).trans (congrArg some (Clm.span_get p.long h))
  have gw:=fun i (h:i<(Clm.spanL p.wide).length)=>(List.getElem?_eq_getElem h).trans (congrArg some (Clm.span_get p.wide h))
  have gh:=fun i (h:i<(Clm.spanL p.high).length)=>(List.getElem?_eq_getElem h).trans (congrArg some (Clm.span_get p.high h))
  obtain ⟨Inv,hInv⟩:∃ Inv:List Clm.Size→List AB→List Nat→Prop,∀ d hp tc,Inv d hp tc↔(∃ W,(∀ j∈W,H.length<j)∧Kp tc H hp∧hp[H.length]?=some (.cells [.int .i64 p.long.lo,.int .i64 p.long.hi,.int .i64 p.wide.lo,.int .i64 p.wide.hi,.int .i64 p.high.lo,.int .i64 p.high.hi])∧J d W hp∧∀ j∈tc,j∈T):=⟨fun d hp tc=>_,fun d hp tc=>Iff.rfl⟩
  obtain ⟨I0,hI0⟩:∃ I0:List AB,I0=H++[.cells [.int .i64 p.long.lo,.int .i64 p.long.hi,.int .i64 p.wide.lo,.int .i64 p.wide.hi,.int .i64 p.high.lo,.int .i64 p.high.hi]]:=⟨_,rfl⟩
  have hI:Inv [] I0 []:=(hInv _ _ _).2 ⟨[],by simp,by rw[hI0];exact Kp.app _ _,by rw[hI0];simp,hY.stable _ _ _ _ HJ.out (by rw[hI0];exact Kp.app _ _) trivial,by simp⟩
  have hstep:∀ d s hp tc,Inv d hp tc→d++[s] <+: Clm.sizes p→∃ b hp' tc',call (.yield l) [.agg [.int .i64 n,.int .i64 s.l,.int .i64 s.w,.int .i64 s.h,.int .i64 pack]] hp=some (.ret (.bool b),hp',tc')∧(b=true→Inv (d++[s]) hp' (tc'.filter (·<H.length)++tc))∧(b=false→Kp (tc'.filter (·<H.length)++tc) H hp'∧E (d++[s]) hp'∧∀ j∈tc'.filter (·<H.length)++tc,j∈T):=by
    intro d s hp tc hi hpre
    obtain ⟨W,k0,k1,k2,k3,k4⟩:=(hInv _ _ _).1 hi
    obtain ⟨b,hp',tc',W',s1,_,s2,s3,s6,s4,s5⟩:=hY.step d s W hp hpre k3
    have hn:∀ j∈tc'.filter (·<H.length)++tc,j∈T:=by
      intro j hj
      rcases List.mem_append.1 hj with h|h
      · obtain ⟨g1,g2⟩:=List.mem_filter.1 h
        have g2:j<H.length:=by simpa using g2
        rcases List.mem_append.1 (s2 j g1) with g|g
        · exact g
        · have:=k0 j g;omega
      · exact k4 j h
    have hk:=k1.trans2 s3
    refine ⟨b,hp',tc',s1,fun h=>(hInv _ _ _).2 ⟨W',?_,hk,?_,s4 h,hn⟩,fun h=>⟨hk,s5 h,hn⟩⟩
    · intro j hj
      have:=get_lt k2
      rcases s6 j hj with h|h
      · exact k0 j h
      · omega
    · refine s3.at k2 fun h=>?_
      rcases List.mem_append.1 (s2 _ h) with h|h
      · have:=hT _ h;omega
      · have:=k0 _ h;omega
  have hfacts:∀ d hp tc,Inv d hp tc→Bk hp b2 (.cells [.int .i64 n])∧Bk hp b3 (.cells [.int .i64 pack])∧Bk hp H.length (.cells [.int .i64 p.long.lo,.int .i64 p.long.hi,.int .i64 p.wide.lo,.int .i64 p.wide.hi,.int .i64 p.high.lo,.int .i64 p.high.hi]):=by
    intro d hp tc hi
    obtain ⟨W,k0,k1,k2,k3,k4⟩:=(hInv _ _ _).1 hi
    exact ⟨bk' (k1.at h2 fun h=>hb2 (k4 _ h)),bk' (k1.at h3 fun h=>hb3 (k4 _ h)),bk' k2⟩
  clear y0 y1 y2 y3 y4 p0 p1 p2 p3 p4 q0 q1 q2 q3 q4 r0 r1 r2 r3 r4 hc HY HJ hge hge' hy h1 h2 h3 hn'
  with_reducible refine zaz hC (Clm.spanL p.long).length (by unfold fuelL;omega) (fun i st=>∃ hp tc,Inv (Clm.szL p i) hp tc∧st={ tm:=tmA 56 [(6,.int .i64 (p.long.lo+i)),(5,.ptr H.length 0),(3,.ptr b3 0),(2,.ptr b2 0),(0,.yield l)],df:=[],hp:=hp,tc:=tc }) ?_ ?_ ?_
  · refine ⟨_,_,hI,?_⟩
    refine st_is ?_ rfl ?_ rfl
    · simp[zan,zaq]
    · rw[hI0]
  · rintro i st hi ⟨hp,tc,hV,rfl⟩
    obtain ⟨⟨f0,f1,f2,f3,f4,f5⟩,⟨g0,g1,g2,g3,g4,g5⟩,⟨h0,h1,h2,h3,h4,h5⟩⟩:=hfacts _ _ _ hV
    have e1:p.long.lo+(i:Int)≤p.long.hi:=by omega
    (repeat (first|(with_reducible apply zad;(focus ((conv=>lhs;simp[*,Nat.testBit_eq_decide_div_mod_eq])<;>exact rfl));simp only[addFl])|((with_reducible first|apply zai|apply zak|apply zah|apply zaf|apply zac|apply zaj|apply zag|apply zam|(apply zae;· simp[*,zaa])|(apply zab;· simp[*,zaa]));try simp only[Then,Ops,OutB])|simp only[Nat.reduceEqDiff,reduceIte,OutB,Then]))
    with_reducible refine zaz hC (Clm.spanL p.wide).length (by unfold fuelL;omega) (fun j st=>∃ hp tc,Inv (Clm.szL p i++Clm.szW p (p.long.lo+i) j) hp tc∧st={ tm:=tmA 56 [(7,.int .i64 (p.wide.lo+j)),(6,.int .i64 (p.long.lo+i)),(5,.ptr H.length 0),(3,.ptr b3 0),(2,.ptr b2 0),(0,.yield l)],df:=[],hp:=hp,tc:=tc }) ?_ ?_ ?_
    · refine ⟨_,_,by simpa [Clm.szW] using hV,?_⟩
      refine st_is ?_ rfl rfl rfl
      simp[zan,zaq]
    · clear hV f0 f1 f2 f3 f4 f5 g0 g1 g2 g3 g4 g5 h0 h1 h2 h3 h4 h5 hp tc
      rintro j st hj ⟨hp,tc,hV,rfl⟩
      obtain ⟨⟨f0,f1,f2,f3,f4,f5⟩,⟨g0,g1,g2,g3,g4,g5⟩,⟨h0,h1,h2,h3,h4,h5⟩⟩:=hfacts _ _ _ hV
      have e2:p.wide.lo+(j:Int)≤p.wide.hi:=by omega
      (repeat (first|(with_reducible apply zad;(focus ((conv=>lhs;simp[*,Nat.testBit_eq_decide_div_mod_eq])<;>exact rfl));simp only[addFl])|((with_reducible first|apply zai|apply zak|apply zah|apply zaf|apply zac|apply zaj|apply zag|apply zam|(apply zae;· simp[*,zaa])|(apply zab;· simp[*,zaa]));try simp only[Then,Ops,OutB])|simp only[Nat.reduceEqDiff,reduceIte,OutB,Then]))
      with_reducible refine zaz hC (Clm.spanL p.high).length (by unfold fuelL;omega) (fun k st=>∃ hp tc,Inv (Clm.szL p i++Clm.szW p (p.long.lo+i) j++Clm.szH p (p.long.lo+i) (p.wide.lo+j) k) hp tc∧st={ tm:=tmA 56 [(8,.int .i64 (p.high.lo+k)),(7,.int .i64 (p.wide.lo+j)),(6,.int .i64 (p.long.lo+i)),(5,.ptr H.length 0),(3,.ptr b3 0),(2,.ptr b2 0),(0,.yield l)],df:=[],hp:=hp,tc:=tc }) ?_ ?_ ?_
      · refine ⟨_,_,by simpa [Clm.szH] using hV,?_⟩
        refine st_is ?_ rfl rfl rfl
        simp[zan,zaq]
      · clear hV f0 f1 f2 f3 f4 f5 g0 g1 g2 g3 g4 g5 h0 h1 h2 h3 h4 h5 hp tc
        rintro k st hk ⟨hp,tc,hV,rfl⟩
        obtain ⟨⟨f0,f1,f2,f3,f4,f5⟩,⟨g0,g1,g2,g3,g4,g5⟩,⟨h0,h1,h2,h3,h4,h5⟩⟩:=hfacts _ _ _ hV
        have e3:p.high.lo+(k:Int)≤p.high.hi:=by omega
        have hpre:=Clm.sz_pre (gl i hi) (gw j hj) (gh k hk)
        obtain ⟨b,hp',tc',s1,s2,s3⟩:=hstep _ _ _ _ hV hpre
        have hw:IntKind.i64.wrap (p.high.lo+↑k+1)=p.high.lo+↑k+1:=zat (by omega) (by omega)
        have HS:=hideP (And.intro hpre (And.intro s2 s3))
        clear s2 s3 hpre hV hfacts hstep hY hInv hI
        cases b with
        |true=>
          (repeat (first|(with_reducible apply zad;(focus ((conv=>lhs;simp[*,Nat.testBit_eq_decide_div_mod_eq])<;>exact rfl));simp only[addFl])|((with_reducible first|apply zai|apply zak|apply zah|apply zaf|apply zac|apply zaj|apply zag|apply zam|(apply zae;· simp[*,zaa])|(apply zab;· simp[*,zaa]));try simp only[Then,Ops,OutB])|simp only[Nat.reduceEqDiff,reduceIte,OutB,Then]))
          obtain ⟨hpre,s2,s3⟩:=HS.out
          have hn:=s2 rfl
          rw[List.append_assoc,← Clm.szH_succ _ _ (gh k hk)] at hn
          with_reducible refine ⟨_,_,hn,?_⟩
          refine st_is ?_ rfl rfl rfl
          simp[zan,zaq,Int.add_assoc]
        |false=>
          (repeat (first|(with_reducible apply zad;(focus ((conv=>lhs;simp[*,Nat.testBit_eq_decide_div_mod_eq])<;>exact rfl));simp only[addFl])|((with_reducible first|apply zai|apply zak|apply zah|apply zaf|apply zac|apply zaj|apply zag|apply zam|(apply zae;· simp[*,zaa])|(apply zab;· simp[*,zaa]));try simp only[Then,Ops,OutB,reduceIte])|simp only[Nat.reduceEqDiff,reduceIte]))
          obtain ⟨hpre,s2,s3⟩:=HS.out
          obtain ⟨t1,t2,t3⟩:=s3 rfl
          exact zao (.inr rfl) rfl t1.len (by simp only[resL];rfl) ⟨rfl,t3,t1,.inr ⟨_,hpre,t2⟩⟩
      · clear hV f0 f1 f2 f3 f4 f5 g0 g1 g2 g3 g4 g5 h0 h1 h2 h3 h4 h5 hp tc
        rintro st ⟨hp,tc,hV,rfl⟩
        obtain ⟨⟨f0,f1,f2,f3,f4,f5⟩,⟨g0,g1,g2,g3,g4,g5⟩,⟨h0,h1,h2,h3,h4,h5⟩⟩:=hfacts _ _ _ hV
        rw[List.append_assoc,← Clm.szW_succ _ (gw j hj)] at hV
        have e3:¬ (p.high.lo+((Clm.spanL p.high).length:Int)≤p.high.hi):=by omega
        have hw:IntKind.i64.wrap (p.wide.lo+↑j+1)=p.wide.lo+↑j+1:=zat (by omega) (by omega)
        clear hnh hnw hnl
        (repeat (first|(with_reducible apply zad;(focus ((conv=>lhs;simp[*,Nat.testBit_eq_decide_div_mod_eq])<;>exact rfl));simp only[addFl])|((with_reducible first|apply zai|apply zak|apply zah|apply zaf|apply zac|apply zaj|apply zag|apply zam|(apply zae;· simp[*,zaa])|(apply zab;· simp[*,zaa]));try simp only[Then,Ops,OutB,reduceIte])|simp only[Nat.reduceEqDiff,reduceIte,OutB,Then]))
        with_reducible refine ⟨_,_,hV,?_⟩
        refine st_is ?_ rfl rfl rfl
        simp[zan,zaq,Int.add_assoc]
    · clear hV f0 f1 f2 f3 f4 f5 g0 g1 g2 g3 g4 g5 h0 h1 h2 h3 h4 h5 hp tc
      rintro st ⟨hp,tc,hV,rfl⟩
      obtain ⟨⟨f0,f1,f2,f3,f4,f5⟩,⟨g0,g1,g2,g3,g4,g5⟩,⟨h0,h1,h2,h3,h4,h5⟩⟩:=hfacts _ _ _ hV
      rw[← Clm.szL_succ (gl i hi)] at hV
      have e3:¬ (p.wide.lo+((Clm.spanL p.wide).length:Int)≤p.wide.hi):=by omega
      have hw:IntKind.i64.wrap (p.long.lo+↑i+1)=p.long.lo+↑i+1:=zat (by omega) (by omega)
      clear hnh hnw hnl
      (repeat (first|(with_reducible apply zad;(focus ((conv=>lhs;simp[*,Nat.testBit_eq_decide_div_mod_eq])<;>exact rfl));simp only[addFl])|((with_reducible first|apply zai|apply zak|apply zah|apply zaf|apply zac|apply zaj|apply zag|apply zam|(apply zae;· simp[*,zaa])|(apply zab;· simp[*,zaa]));try simp only[Then,Ops,OutB,reduceIte])|simp only[Nat.reduceEqDiff,reduceIte,OutB,Then]))
      with_reducible refine ⟨_,_,hV,?_⟩
      refine st_is ?_ rfl rfl rfl
      simp[zan,zaq,Int.add_assoc]
  · rintro st ⟨hp,tc,hV,rfl⟩
    obtain ⟨⟨f0,f1,f2,f3,f4,f5⟩,⟨g0,g1,g2,g3,g4,g5⟩,⟨h0,h1,h2,h3,h4,h5⟩⟩:=hfacts _ _ _ hV
    rw[Clm.sz_all] at hV
    obtain ⟨W,t0,t1,t2,t3,t4⟩:=(hInv _ _ _).1 hV
    have e3:¬ (p.long.lo+((Clm.spanL p.long).length:Int)≤p.long.hi):=by omega
    clear hnh hnw hnl
    (repeat (first|(with_reducible apply zad;(focus ((conv=>lhs;simp[*,Nat.testBit_eq_decide_div_mod_eq])<;>exact rfl));simp only[addFl])|((with_reducible first|apply zai|apply zak|apply zah|apply zaf|apply zac|apply zaj|apply zag|apply zam|(apply zae;· simp[*,zaa])|(apply zab;· simp[*,zaa]));try simp only[Then,Ops,OutB,reduceIte])|simp only[Nat.reduceEqDiff,reduceIte,OutB,Then]))
    exact zao (.inr rfl) rfl t1.len (by simp only[resL];rfl) ⟨rfl,t4,t1,.inl ⟨W,t0,t3⟩⟩
end K
end Ev
end Go.Proofs.YtimgnlellflciaaGreat
