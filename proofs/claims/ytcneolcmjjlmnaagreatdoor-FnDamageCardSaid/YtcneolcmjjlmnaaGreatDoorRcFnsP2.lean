import Derived.Test.YtcneolcmjjlmnaaGreatDoorRcFnsP1
open Option renaming some->Jg,none->Jh
open Bool renaming false->Jj
open Go renaming Value->Jl
open Go.IntKind renaming i64->Y
namespace Go.Proofs.YtcneolcmjjlmnaaGreatDoor
open Go Go.Vc
set_option linter.unusedVariables false
set_option linter.unusedSimpArgs false
set_option maxRecDepth 20000
set_option maxHeartbeats 4000000
attribute [local irreducible] CallsQ vLen vIdx IntKind.wrap hcell vNew vNewS vSliceS vStore1 vAppend vMake vCopy vB2S vS2B vNilS vSliceStr vStrIdx
theorem Zwm {ψ:CM} {h0 h:Heap} {os:List Ob} {y0:Za} {b0:Nat} {e:Jc} {f:Jl} {r:Zz×Za} (N:ZjP y0=Jg r) (C:S ψ h0 h (.box b0 (f::.int .i64 y0.qat::.int .u64 y0.qseed::e)::os)) (af:SlC (UB ψ h0) (El.int .u8) f y0.qcode):CallsH P 248 #[.pointer (Jg ⟨b0,0,Jh⟩)] h (λv h'=>∃w0,v=.agg #[.int .i64 r.1.Points,w0]/\S ψ h0 h' (.it (El.ow eL) [w0] r.1.Blocks::.box b0 (f::.int .i64 r.2.qat::.int .u64 r.2.qseed::e)::os)):=by
 refine zv ⟨an [[9,25,36],[12,25,42],[19,49,54],[23,61,426],[31,79,84],[35,91,582]],[],[],[]⟩ Tryz.func248 ?_;refine new_S C λb2 d4 C=>?_;refine ZW (E:=eI) (css:=[[.int .i64 0],[.int .i64 1],[.int .i64 3]]) (xs:=([0,1,3]:Jb)) C (λ_=>⟨[],[],rfl,⟨rfl,rfl⟩,⟨[],[],rfl,⟨rfl,rfl⟩,⟨[],[],rfl,⟨rfl,rfl⟩,rfl⟩⟩⟩) rfl rfl λi d5 C=>?_;refine ZW (E:=eI) (css:=[[.int .i64 1],[.int .i64 2],[.int .i64 4]]) (xs:=([1,2,4]:Jb)) C (λ_=>⟨[],[],rfl,⟨rfl,rfl⟩,⟨[],[],rfl,⟨rfl,rfl⟩,⟨[],[],rfl,⟨rfl,rfl⟩,rfl⟩⟩⟩) rfl rfl λj d6 C=>?_;refine ZW (E:=eI) (css:=[[.int .i64 2],[.int .i64 3],[.int .i64 5]]) (xs:=([2,3,5]:Jb)) C (λ_=>⟨[],[],rfl,⟨rfl,rfl⟩,⟨[],[],rfl,⟨rfl,rfl⟩,⟨[],[],rfl,⟨rfl,rfl⟩,rfl⟩⟩⟩) rfl rfl λk d7 C=>?_;refine ZW (E:=eI) (css:=[[.int .i64 3],[.int .i64 4],[.int .i64 6]]) (xs:=([3,4,6]:Jb)) C (λ_=>⟨[],[],rfl,⟨rfl,rfl⟩,⟨[],[],rfl,⟨rfl,rfl⟩,⟨[],[],rfl,⟨rfl,rfl⟩,rfl⟩⟩⟩) rfl rfl λl d8 C=>?_;refine ZW (E:=eI) (css:=[[.int .i64 0],[.int .i64 4],[.int .i64 5]]) (xs:=([0,4,5]:Jb)) C (λ_=>⟨[],[],rfl,⟨rfl,rfl⟩,⟨[],[],rfl,⟨rfl,rfl⟩,⟨[],[],rfl,⟨rfl,rfl⟩,rfl⟩⟩⟩) rfl rfl λo d9 C=>?_;refine ZW (E:=eI) (css:=[[.int .i64 1],[.int .i64 5],[.int .i64 6]]) (xs:=([1,5,6]:Jb)) C (λ_=>⟨[],[],rfl,⟨rfl,rfl⟩,⟨[],[],rfl,⟨rfl,rfl⟩,⟨[],[],rfl,⟨rfl,rfl⟩,rfl⟩⟩⟩) rfl rfl λu da C=>?_;refine ZW (E:=eI) (css:=[[.int .i64 0],[.int .i64 2],[.int .i64 6]]) (xs:=([0,2,6]:Jb)) C (λ_=>⟨[],[],rfl,⟨rfl,rfl⟩,⟨[],[],rfl,⟨rfl,rfl⟩,⟨[],[],rfl,⟨rfl,rfl⟩,rfl⟩⟩⟩) rfl rfl λw db C=>?_;refine ZD oneA ?_;refine ZD oneA ?_;refine ZD oneA ?_;refine ZD oneA ?_;refine ZD oneA ?_;refine ZD oneA ?_;refine ZD oneA ?_;have C:=frA 0;have C:=C.copyF 0 rfl;have C:=frA 2;have C:=C.copyF 2 rfl;have C:=frA 4;have C:=C.copyF 4 rfl;have C:=frA 6;have C:=C.copyF 6 rfl;have C:=frA 8;have C:=C.copyF 8 rfl;have C:=frA 10;have C:=C.copyF 10 rfl;have C:=frA 12;have C:=C.copyF 12 rfl;refine ZG6 (E:=eL) [i,j,k,l,o,u,w] [([0,1,3]:Jb),([1,2,4]:Jb),([2,3,5]:Jb),([3,4,6]:Jb),([0,4,5]:Jb),([1,5,6]:Jb),([0,2,6]:Jb)] C ⟨rfl,rfl⟩ λy bg C=>?_;have C:S ψ h0 bg (.box b0 (f::.int .i64 y0.qat::.int .u64 y0.qseed::e)::.it (El.ow eL) [y] ([([0,1,3]:Jb),([1,2,4]:Jb),([2,3,5]:Jb),([3,4,6]:Jb),([0,4,5]:Jb),([1,5,6]:Jb),([0,2,6]:Jb)])::.it eL [w] ([0,2,6]:Jb)::.it eL [u] ([1,5,6]:Jb)::.it eL [o] ([0,4,5]:Jb)::.it eL [l] ([3,4,6]:Jb)::.it eL [k] ([2,3,5]:Jb)::.it eL [j] ([1,2,4]:Jb)::.it eL [i] ([0,1,3]:Jb)::.box b2 [.int .i64 0,(.slice Jh 0 0)]::os):=pkT C 10 [9,0,1,2,3,4,5,6,7,8];obtain ⟨g,x,N⟩:=obind N;obtain ⟨φ,L,s,b5⟩:=id C;refine (ZQ x (s.upS b5) (af.mono s.ubU)).mono λdc c8 ⟨eq,t⟩=>⟨_,eq,?_⟩;replace C:=s.downS t;clear t s b5;apply brQ N<;>intro N
 .refine cm1 N C (λs x=>Zf1 s x slA) λdd bs c9 C N=>⟨_,rfl,?_⟩;refine ZD oneA ?_;(iterate 2 refine boxA λca C=>?_);refine lsA ?_;obtain rfl:=oI N;exact ⟨bs,rfl,pkT C 11 [0,1]⟩
 .apply brQ N<;>intro N
  .refine neA eL λbt bh C=>?_;have C:S ψ h0 bh (.box b0 (f::.int .i64 g.2.qat::.int .u64 g.2.qseed::e)::.it (El.ow eL) [bt] ([]:Ja)::.it (El.ow eL) [y] ([([0,1,3]:Jb),([1,2,4]:Jb),([2,3,5]:Jb),([3,4,6]:Jb),([0,4,5]:Jb),([1,5,6]:Jb),([0,2,6]:Jb)])::.it eL [w] ([0,2,6]:Jb)::.it eL [u] ([1,5,6]:Jb)::.it eL [o] ([0,4,5]:Jb)::.it eL [l] ([3,4,6]:Jb)::.it eL [k] ([2,3,5]:Jb)::.it eL [j] ([1,2,4]:Jb)::.it eL [i] ([0,1,3]:Jb)::.box b2 [.int .i64 0,(.slice Jh 0 0)]::os):=pkT C 11 [1,0,2,3,4,5,6,7,8,9,10];obtain ⟨a4,bi,N⟩:=obind N;obtain ⟨cb,de,ae,b6⟩:=id C;refine (ZQ bi (ae.upS b6) (af.mono ae.ubU)).mono λdf cc ⟨bj,b7⟩=>⟨_,bj,?_⟩;replace C:=ae.downS b7;clear b7 ae b6;obtain ⟨bu,hn⟩:=ZP N;refine ⟨λn v4 y6 ah=>∃y4,S ψ h0 ah (.box b0 (f::.int .i64 a4.2.qat::.int .u64 a4.2.qseed::e)::.it (El.ow eL) [v4] y4::.it (El.ow eL) [y] ([([0,1,3]:Jb),([1,2,4]:Jb),([2,3,5]:Jb),([3,4,6]:Jb),([0,4,5]:Jb),([1,5,6]:Jb),([0,2,6]:Jb)])::.it eL [w] ([0,2,6]:Jb)::.it eL [u] ([1,5,6]:Jb)::.it eL [o] ([0,4,5]:Jb)::.it eL [l] ([3,4,6]:Jb)::.it eL [k] ([2,3,5]:Jb)::.it eL [j] ([1,2,4]:Jb)::.it eL [i] ([0,1,3]:Jb)::.box b2 [.int .i64 0,(.slice Jh 0 0)]::os)/\loopN (ZrP y0 a4) n (y4,y6)=Jg r,⟨bu,_,pkT C 11 [0,1,2,3,4,5,6,7,8,9,10],hn⟩,?_⟩;rintro n _ v4 y6 ah ⟨y4,C,hn⟩;obtain ⟨m,a,rfl,N,O⟩:=ZN hn;apply brQ N<;>intro N
   .obtain ⟨bw,a8⟩:=ZP N;refine ⟨λb8 ai y7 aj=>∃a9,S ψ h0 aj (.box b0 (f::.int .i64 a4.2.qat::.int .u64 a4.2.qseed::e)::.it (El.ow eL) [ai] a9::.it (El.ow eL) [y] ([([0,1,3]:Jb),([1,2,4]:Jb),([2,3,5]:Jb),([3,4,6]:Jb),([0,4,5]:Jb),([1,5,6]:Jb),([0,2,6]:Jb)])::.it eL [w] ([0,2,6]:Jb)::.it eL [u] ([1,5,6]:Jb)::.it eL [o] ([0,4,5]:Jb)::.it eL [l] ([3,4,6]:Jb)::.it eL [k] ([2,3,5]:Jb)::.it eL [j] ([1,2,4]:Jb)::.it eL [i] ([0,1,3]:Jb)::.box b2 [.int .i64 0,(.slice Jh 0 0)]::os)/\loopN (Zll a4 y6) b8 (a9,y7)=Jg a,⟨bw,_,pkT C 11 [0,1,2,3,4,5,6,7,8,9,10],a8⟩,?_⟩;rintro b8 _ ai y7 aj ⟨a9,C,a8⟩;obtain ⟨dg,dh,rfl,N,ak⟩:=ZN a8;apply brQ N<;>intro N
    .refine ZW (E:=eI) (css:=[[.int .i64 y6],[.int .i64 y7]]) (xs:=([y6,y7]:Jb)) C (λ_=>⟨[],[],rfl,⟨rfl,rfl⟩,⟨[],[],rfl,⟨rfl,rfl⟩,rfl⟩⟩) rfl rfl λdi cd C=>?_;refine ZD oneA ?_;have C:=frA 0;have C:=C.copyF 0 rfl;refine piA N 2 λdj dk ce C N=>?_;obtain rfl:=oI N;exact ⟨_,ltS,_,pkT C 12 [1,2,3,4,5,6,7,8,9,10,11],ak⟩
    .obtain rfl:=oI N;obtain rfl:=oI ak;exact ⟨_,ltS,_,pkT C 11 [0,1,2,3,4,5,6,7,8,9,10],O⟩
   .refine cm1 N C (λs x=>Zf1 s x slA) λdl bx cf C N=>⟨_,rfl,?_⟩;refine ZD oneA ?_;(iterate 2 refine boxA λcg C=>?_);refine lsA ?_;obtain rfl:=oI N;obtain rfl:=oI O;exact ⟨bx,rfl,pkT C 12 [0,1]⟩
  .apply brQ N<;>intro N
   .refine neA eL λdm ch C=>?_;obtain ⟨bz,aa⟩:=ZP N;refine ⟨λb9 v8 y9 al=>∃y8,S ψ h0 al (.it (El.ow eL) [v8] y8::.box b0 (f::.int .i64 g.2.qat::.int .u64 g.2.qseed::e)::.it (El.ow eL) [y] ([([0,1,3]:Jb),([1,2,4]:Jb),([2,3,5]:Jb),([3,4,6]:Jb),([0,4,5]:Jb),([1,5,6]:Jb),([0,2,6]:Jb)])::.it eL [w] ([0,2,6]:Jb)::.it eL [u] ([1,5,6]:Jb)::.it eL [o] ([0,4,5]:Jb)::.it eL [l] ([3,4,6]:Jb)::.it eL [k] ([2,3,5]:Jb)::.it eL [j] ([1,2,4]:Jb)::.it eL [i] ([0,1,3]:Jb)::.box b2 [.int .i64 0,(.slice Jh 0 0)]::os)/\loopN (ZrE y0 g) b9 (y8,y9)=Jg r,⟨bz,_,pkT C 11 [0,1,2,3,4,5,6,7,8,9,10],aa⟩,?_⟩;rintro b9 _ v8 y9 al ⟨y8,C,aa⟩;obtain ⟨dn,c0,rfl,N,ao⟩:=ZN aa;apply brQ N<;>intro N
    .refine neA eI λdp cj C=>?_;refine ZW (E:=eI) (css:=[[.int .i64 1],[.int .i64 3],[.int .i64 4],[.int .i64 5],[.int .i64 9]]) (xs:=([1,3,4,5,9]:Jb)) C (λ_=>⟨[],[],rfl,⟨rfl,rfl⟩,⟨[],[],rfl,⟨rfl,rfl⟩,⟨[],[],rfl,⟨rfl,rfl⟩,⟨[],[],rfl,⟨rfl,rfl⟩,⟨[],[],rfl,⟨rfl,rfl⟩,rfl⟩⟩⟩⟩⟩) rfl rfl λc3 ck C=>?_;refine ZF slA ?_;obtain ⟨c4,ab⟩:=ZP N;refine ⟨λba bb bc ap=>∃aq,S ψ h0 ap (.it oL [c3] ([1,3,4,5,9]:Jb)::.it oL [bb] aq::.it (El.ow eL) [v8] y8::.box b0 (f::.int .i64 g.2.qat::.int .u64 g.2.qseed::e)::.it (El.ow eL) [y] ([([0,1,3]:Jb),([1,2,4]:Jb),([2,3,5]:Jb),([3,4,6]:Jb),([0,4,5]:Jb),([1,5,6]:Jb),([0,2,6]:Jb)])::.it eL [w] ([0,2,6]:Jb)::.it eL [u] ([1,5,6]:Jb)::.it eL [o] ([0,4,5]:Jb)::.it eL [l] ([3,4,6]:Jb)::.it eL [k] ([2,3,5]:Jb)::.it eL [j] ([1,2,4]:Jb)::.it eL [i] ([0,1,3]:Jb)::.box b2 [.int .i64 0,(.slice Jh 0 0)]::os)/\loopN (Zst y8 y9) ba (aq,bc)=Jg c0,⟨c4,_,pkT C 13 [0,1,2,3,4,5,6,7,8,9,10,11,12],ab⟩,?_⟩;rintro ba _ bb bc ap ⟨aq,C,ab⟩;obtain ⟨dq,dr,rfl,N,ar⟩:=ZN ab;apply brQ N<;>intro N
     .refine ixI slA N λds N=>?_;refine gzA N λN=>?_;refine cm1 N C (λs x=>Zkp s x slA) λdt du cm C N=>⟨_,rfl,?_⟩;obtain rfl:=oI N;exact ⟨_,ltS,_,pkT C 14 [1,0,3,4,5,6,7,8,9,10,11,12,13],ar⟩
     .refine ZD oneA ?_;have C:=frA 1;have C:=C.copyF 1 rfl;refine piA N 2 λdv dw cn C N=>?_;obtain rfl:=oI N;obtain rfl:=oI ar;exact ⟨_,ltS,_,pkT C 13 [2,3,4,5,6,7,8,9,10,11,12],ao⟩
    .refine cm1 N C (λs x=>Zf1 s x slA) λdx c5 co C N=>⟨_,rfl,?_⟩;refine ZD oneA ?_;(iterate 2 refine boxA λcp C=>?_);refine lsA ?_;obtain rfl:=oI N;obtain rfl:=oI ao;exact ⟨c5,rfl,pkT C 12 [0,2]⟩
   .refine neA eL λdy cq C=>?_;obtain ⟨bp,ac⟩:=ZP N;refine ⟨λbd au av aw=>∃a7,S ψ h0 aw (.it (El.ow eL) [au] a7::.box b0 (f::.int .i64 g.2.qat::.int .u64 g.2.qseed::e)::.it (El.ow eL) [y] ([([0,1,3]:Jb),([1,2,4]:Jb),([2,3,5]:Jb),([3,4,6]:Jb),([0,4,5]:Jb),([1,5,6]:Jb),([0,2,6]:Jb)])::.it eL [w] ([0,2,6]:Jb)::.it eL [u] ([1,5,6]:Jb)::.it eL [o] ([0,4,5]:Jb)::.it eL [l] ([3,4,6]:Jb)::.it eL [k] ([2,3,5]:Jb)::.it eL [j] ([1,2,4]:Jb)::.it eL [i] ([0,1,3]:Jb)::.box b2 [.int .i64 0,(.slice Jh 0 0)]::os)/\loopN (Zql y0 g) bd (a7,av)=Jg r,⟨bp,_,pkT C 11 [0,1,2,3,4,5,6,7,8,9,10],ac⟩,?_⟩;rintro bd _ au av aw ⟨a7,C,ac⟩;obtain ⟨dz,c6,rfl,N,ax⟩:=ZN ac;apply brQ N<;>intro N
    .refine neA eI λe0 cr C=>?_;refine ZW (E:=eI) (css:=[[.int .i64 0],[.int .i64 1],[.int .i64 3],[.int .i64 9]]) (xs:=([0,1,3,9]:Jb)) C (λ_=>⟨[],[],rfl,⟨rfl,rfl⟩,⟨[],[],rfl,⟨rfl,rfl⟩,⟨[],[],rfl,⟨rfl,rfl⟩,⟨[],[],rfl,⟨rfl,rfl⟩,rfl⟩⟩⟩⟩) rfl rfl λc7 ct C=>?_;refine ZF slA ?_;obtain ⟨bq,ad⟩:=ZP N;refine ⟨λay be bf az=>∃b1,S ψ h0 az (.it oL [c7] ([0,1,3,9]:Jb)::.it oL [be] b1::.it (El.ow eL) [au] a7::.box b0 (f::.int .i64 g.2.qat::.int .u64 g.2.qseed::e)::.it (El.ow eL) [y] ([([0,1,3]:Jb),([1,2,4]:Jb),([2,3,5]:Jb),([3,4,6]:Jb),([0,4,5]:Jb),([1,5,6]:Jb),([0,2,6]:Jb)])::.it eL [w] ([0,2,6]:Jb)::.it eL [u] ([1,5,6]:Jb)::.it eL [o] ([0,4,5]:Jb)::.it eL [l] ([3,4,6]:Jb)::.it eL [k] ([2,3,5]:Jb)::.it eL [j] ([1,2,4]:Jb)::.it eL [i] ([0,1,3]:Jb)::.box b2 [.int .i64 0,(.slice Jh 0 0)]::os)/\loopN (Zo6 a7 av) ay (b1,bf)=Jg c6,⟨bq,_,pkT C 13 [0,1,2,3,4,5,6,7,8,9,10,11,12],ad⟩,?_⟩;rintro ay _ be bf az ⟨b1,C,ad⟩;obtain ⟨e1,e2,rfl,N,b3⟩:=ZN ad;apply brQ N<;>intro N
     .refine ixI slA N λe3 N=>?_;refine gzA N λN=>?_;refine cm1 N C (λs x=>Zkp s x slA) λcu cv cx C N=>⟨_,rfl,?_⟩;obtain rfl:=oI N;exact ⟨_,ltS,_,pkT C 14 [1,0,3,4,5,6,7,8,9,10,11,12,13],b3⟩
     .refine ZD oneA ?_;have C:=frA 1;have C:=C.copyF 1 rfl;refine piA N 2 λcy cz d0 C N=>?_;obtain rfl:=oI N;obtain rfl:=oI b3;exact ⟨_,ltS,_,pkT C 13 [2,3,4,5,6,7,8,9,10,11,12],ax⟩
    .refine cm1 N C (λs x=>Zf1 s x slA) λd1 br d2 C N=>⟨_,rfl,?_⟩;refine ZD oneA ?_;(iterate 2 refine boxA λd3 C=>?_);refine lsA ?_;obtain rfl:=oI N;obtain rfl:=oI ax;exact ⟨br,rfl,pkT C 12 [0,2]⟩
instance k64:Kn 248 (type_of% @Zwm):=⟨@Zwm⟩
theorem ZFd {ψ:CM} {j h:Heap} {os:List Ob} {f:Za} {k:Nat} {a:Jc} {e:Jl} {r:Zz×Za} (N:ZlE f=Jg r) (C:S ψ j h (.box k (e::.int .i64 f.qat::.int .u64 f.qseed::a)::os)) (g:SlC (UB ψ j) (El.int .u8) e f.qcode):CallsH P 163 #[.pointer (Jg ⟨k,0,Jh⟩)] h (λv h'=>∃w0,v=.agg #[.int .i64 r.1.Points,w0]/\S ψ j h' (.it (El.ow eL) [w0] r.1.Blocks::.box k (e::.int .i64 r.2.qat::.int .u64 r.2.qseed::a)::os)):=by
 refine zv annO Tryz.func163 ?_;refine new_S C λb2 w C=>?_;have C:S ψ j w (.box k (e::.int .i64 f.qat::.int .u64 f.qseed::a)::.box b2 [.int .i64 0,(.slice Jh 0 0)]::os):=pkT C 2 [1,0];obtain ⟨r5,hx,N⟩:=obind N;obtain ⟨φ,L,s,l⟩:=id C;refine (ZbT hx (s.upS l) (g.mono s.ubU)).mono λa5 a6 ⟨eq,t⟩=>⟨_,eq,?_⟩;replace C:=s.downS t;clear t s l;apply brQ N<;>intro N
 .exact wX
 .obtain ⟨r9,o,N⟩:=obind N;obtain ⟨a4,a7,i,x⟩:=id C;refine (ZQ o (i.upS x) (g.mono i.ubU)).mono λa8 a9 ⟨u,y⟩=>⟨_,u,?_⟩;replace C:=i.downS y;exact wX
theorem ZBJ {ψ:CM} {l h:Heap} {os:List Ob} {g:Za} {o:Nat} {e:Jc} {f:Jl} {r:Zz×Za} (N:Zlq g=Jg r) (C:S ψ l h (.box o (f::.int .i64 g.qat::.int .u64 g.qseed::e)::os)) (i:SlC (UB ψ l) (El.int .u8) f g.qcode):CallsH P 87 #[.pointer (Jg ⟨o,0,Jh⟩)] h (λv h'=>∃w0,v=.agg #[.int .i64 r.1.Points,w0]/\S ψ l h' (.it (El.ow eL) [w0] r.1.Blocks::.box o (f::.int .i64 r.2.qat::.int .u64 r.2.qseed::e)::os)):=by
 refine zv ⟨an [[14]],[],[],[]⟩ Tryz.func87 ?_;refine new_S C λb2 ae C=>?_;have C:S ψ l ae (.box o (f::.int .i64 g.qat::.int .u64 g.qseed::e)::.box b2 [.int .i64 0,(.slice Jh 0 0)]::os):=pkT C 2 [1,0];obtain ⟨u,hx,N⟩:=obind N;obtain ⟨φ,L,s,a2⟩:=id C;refine (ZFd hx (s.upS a2) (i.mono s.ubU)).mono λao ap ⟨v6,eq,t⟩=>⟨_,_,eq,?_⟩;replace C:=s.downS t;clear t s a2;refine new_S C λb3 aq C=>?_;(iterate 2 refine boxA λag C=>?_);have C:S ψ l ag (.box o (f::.int .i64 u.2.qat::.int .u64 u.2.qseed::e)::.box b3 [.int .i64 u.1.Points,v6]::.it (El.ow eL) [v6] u.1.Blocks::.box b2 [.int .i64 0,(.slice Jh 0 0)]::os):=pkT C 4 [2,0,1,3];obtain ⟨r8,a9,N⟩:=obind N;obtain ⟨aj,ar,j,a3⟩:=id C;refine (ZQ a9 (j.upS a3) (i.mono j.ubU)).mono λau av ⟨aa,a4⟩=>⟨_,aa,?_⟩;replace C:=j.downS a4;clear a4 j a3;apply brQ N<;>intro N
 .exact wX
 .apply brQ N<;>intro N
  .exact wX
  .apply brQ N<;>intro N
   .exact wX
   .apply brQ N<;>intro N
    .exact wX
    .apply brQ N<;>intro N
     ·(iterate 2 refine boxA λak C=>?_);obtain ⟨w,ab,N⟩:=obind N;obtain ⟨al,aw,k,a5⟩:=id C;refine (ZQ ab (k.upS a5) (i.mono k.ubU)).mono λax am ⟨ac,a6⟩=>⟨_,ac,?_⟩;replace C:=k.downS a6;clear a6 k a5;have C:=C.nilO (E:=eL);obtain ⟨ah,hn⟩:=ZP N;refine ⟨λn x=>∃xs y,S ψ l x (.box o (f::.int .i64 w.2.qat::.int .u64 w.2.qseed::e)::.box b3 [.int .i64 3,y]::.it (El.ow eL) [v6] u.1.Blocks::.box b2 [.int .i64 0,(.slice Jh 0 0)]::.it (El.ow eL) [y] xs::os)/\loopN (ZsA g w) n xs=Jg r,⟨ah,_,_,pkT C 5 [1,2,3,4,0],hn⟩,?_⟩;rintro n _ x ⟨xs,y,C,hn⟩;obtain ⟨m,a,rfl,N,O⟩:=ZN hn;exact wX
     .exact wX
instance k65:Kn 87 (type_of% @ZBJ):=⟨@ZBJ⟩
theorem ZxM {ψ:CM} {o h:Heap} {os:List Ob} {i:Za} {u:Nat} {e:Jc} {f:Jl} {r:Zz×Za} (N:Zm8 i=Jg r) (C:S ψ o h (.box u (f::.int .i64 i.qat::.int .u64 i.qseed::e)::os)) (j:SlC (UB ψ o) (El.int .u8) f i.qcode):CallsH P 47 #[.pointer (Jg ⟨u,0,Jh⟩)] h (λv h'=>∃w0,v=.agg #[.int .i64 r.1.Points,w0]/\S ψ o h' (.it (El.ow eL) [w0] r.1.Blocks::.box u (f::.int .i64 r.2.qat::.int .u64 r.2.qseed::e)::os)):=by
 refine zv ⟨an [[9,31]],[],[],[]⟩ Tryz.func47 ?_;refine new_S C λb2 ad C=>?_;have C:S ψ o ad (.box u (f::.int .i64 i.qat::.int .u64 i.qseed::e)::.box b2 [.int .i64 0,(.slice Jh 0 0)]::os):=pkT C 2 [1,0];obtain ⟨r7,hx,N⟩:=obind N;obtain ⟨φ,L,s,y⟩:=id C;refine (ZQ hx (s.upS y) (j.mono s.ubU)).mono λam ao ⟨eq,t⟩=>⟨_,eq,?_⟩;replace C:=s.downS t;clear t s y;apply brQ N<;>intro N
 .exact wX
 .apply brQ N<;>intro N
  .exact wX
  .obtain ⟨ae,a6,N⟩:=obind N;obtain ⟨ai,ap,k,a2⟩:=id C;refine (ZQ a6 (k.upS a2) (j.mono k.ubU)).mono λaq aj ⟨a7,a3⟩=>⟨_,a7,?_⟩;replace C:=k.downS a3;clear a3 k a2;obtain ⟨w,a8,N⟩:=obind N;obtain ⟨ak,ar,l,a4⟩:=id C;refine (ZoK a8 (l.upS a4) (j.mono l.ubU)).mono λau al ⟨av,a9,a5⟩=>⟨_,a9,?_⟩;replace C:=l.downS a5;clear a5 l a4;obtain ⟨af,hn⟩:=ZP N;refine ⟨λn v5 x=>∃g,S ψ o x (.it (El.ow eL) [v5] g::.box u (f::.int .i64 w.2.qat::.int .u64 w.2.qseed::e)::.box b2 [.int .i64 0,(.slice Jh 0 0)]::os)/\loopN (Zqc i ae w) n g=Jg r,⟨af,_,pkT C 3 [0,1,2],hn⟩,?_⟩;rintro n _ v5 x ⟨g,C,hn⟩;obtain ⟨m,a,rfl,N,O⟩:=ZN hn;refine ZF slA ?_;apply brQ N<;>intro N
   .obtain ⟨aw,ab,N⟩:=obind N;refine cut_S (Jg 1) Jh C 0 rfl ab rfl λax C=>?_;exact wX
   .exact wX
instance k66:Kn 47 (type_of% @ZxM):=⟨@ZxM⟩
section
variable {ψ:CM} {h:Heap} (hψ:CLe ψ (hcell h))
include hψ
theorem ZEq {a v0 r} (N:ZpM a=Jg r) (e:sc h eL v0 a):CallsH P 48 #[v0] h (λv g=>∃w0,v=.tuple #[.agg #[.int .i64 r.1.Kind,.int .i64 r.1.Size,w0],.int .i64 r.2]/\S ψ h g [.it (El.ow eL) [w0] r.1.Rows]):=by
 refine zO Tryz.func48 λC=>?_;exact wX
omit hψ in
instance k67:Kn 48 (type_of% @ZEq):=⟨@ZEq⟩
theorem ZAE {a0 v0 a v1 r} (N:Zj5 a0 a=Jg r) (e:sc h eL v0 a0) (f:sc h eL v1 a):zL 90 #[v0,v1] h ψ eL r:=by
 refine zS hψ ⟨an [[3,31,36],[6,31,42],[10,49,54],[13,49,60]],[],[],[(15,⟨[],.fin (rgs [(1,16),(0,1),(17,2)]),Jj⟩)]⟩ Tryz.func90 λC=>?_;exact wX
omit hψ in
instance k68:Kn 90 (type_of% @ZAE):=⟨@ZAE⟩
theorem ZvI {k0 r} (N:Zh3 k0=Jg r)  :zL 49 #[.int .i64 k0] h ψ eL r:=by
 refine zT [[2,0,19]] Tryz.func49 λC=>?_;refine ZW (E:=eI) (css:=[[.int .i64 1]]) (xs:=([1]:Jb)) C (λ_=>⟨[],[],rfl,⟨rfl,rfl⟩,rfl⟩) rfl rfl λi j C=>?_;refine ZD oneA ?_;have C:=frA 0;have C:=C.copyF 0 rfl;refine Zcp C λy k C=>?_;refine lw21 N (λf g e=>([.it (El.ow eL) [g] e,.it eL [i] ([1]:Jb)],f,e)) λf g l e a C N O=>?_;apply brQ N<;>intro N
 .refine ZW (E:=eI) (css:=[[.int .i64 1],[.int .i64 1]]) (xs:=([1,1]:Jb)) C (λ_=>⟨[],[],rfl,⟨rfl,rfl⟩,⟨[],[],rfl,⟨rfl,rfl⟩,rfl⟩⟩) rfl rfl λo s C=>?_;refine ZW (E:=eI) (css:=[[.int .i64 1],[.int .i64 (-1)]]) (xs:=([1,(-1)]:Jb)) C (λ_=>⟨[],[],rfl,⟨rfl,rfl⟩,⟨[],[],rfl,⟨rfl,rfl⟩,rfl⟩⟩) rfl rfl λu v C=>?_;refine ZD oneA ?_;refine ZD oneA ?_;have C:=frA 0;have C:=C.copyF 0 rfl;have C:=frA 2;have C:=C.copyF 2 rfl;refine ZtN C λw x C=>?_;exact wX
 .exact wX
omit hψ in
instance k69:Kn 49 (type_of% @ZvI):=⟨@ZvI⟩
theorem Zue {a0 a r} (N:ZlY a0=Jg r) (e:sc h eL a a0.Rows):CallsH P 50 #[.agg #[.int .i64 a0.Levels,.int .i64 a0.Columns,a]] h (λv g=>∃w0,v=.tuple #[.agg #[.int .i64 r.1.Kind,.int .i64 r.1.Size,w0],.int .i64 r.2]/\S ψ h g [.it (El.ow eL) [w0] r.1.Rows]):=by
 refine zO Tryz.func50 λC=>?_;exact wX
omit hψ in
instance k70:Kn 50 (type_of% @Zue):=⟨@Zue⟩
theorem ZH1 {a0 a r} (N:ZnO a0 a=Jg r)  :zR 93 #[.int .i64 a0,.int .i64 a] h ψ (.int .i64 r):=by
 refine zO Tryz.func93 λC=>?_;exact wX
theorem Zqy {a e r} (N:ZeO a e=Jg r)  :zR 97 #[.int .i64 a,.int .i64 e] h ψ (.int .i64 r):=by
 refine zT [[3,30,36]] Tryz.func97 λC=>?_;exact wX
theorem ZBw {n0 a e r} (N:ZiI n0 a e=Jg r)  :zL 169 #[.int .i64 n0,.int .i64 a,.int .i64 e] h ψ eI r:=by
 refine zT [[3,0,48]] Tryz.func169 λC=>?_;exact wX
theorem ZIy {k y1 l r} (N:Zl8 k y1 l=Jg r)  :CallsH P 94 #[.int .i64 k,.int .i64 y1,.int .i64 l] h (λv h'=>∃w0,v=.agg #[.int .i64 r.Levels,.int .i64 r.Columns,w0]/\S ψ h h' [.it (El.ow oL) [w0] r.Rows]):=by
 refine zS hψ ⟨an [[5,60],[10,73,78],[16,84,90]],an [[19,84]],[],[(18,⟨kdL [0,0,3,0,0,0,2,4,0],.fin (rgs [(0,9)]),true⟩)]⟩ Tryz.func94 λC=>?_;refine new_S C λb6 ao C=>?_;refine cm1 N C (λs o=>Zg6 s o) λe g ap C N=>⟨_,_,_,rfl,?_⟩;refine new_S C λb7 aq C=>?_;(iterate 3 refine boxA λar C=>?_);refine neA oL λau av C=>?_;refine ZD oneA ?_;refine new_S C λb8 aw C=>?_;(iterate 3 refine boxA λad C=>?_);refine cm0 N C (λs o=>Zqy s o) λax ae C N=>⟨_,rfl,?_⟩;refine lw12 N (λa5 xs f=>([.box b8 [.int .i64 k,.int .i64 l,f],.it (El.ow oL) [f] xs,.box b7 [.int .i64 e.Prime,.int .i64 e.Degree,g],.it oL [g] e.Poly,.box b6 [.int .i64 0,.int .i64 0,(.slice Jh 0 0)]],a5,xs)) λa5 af xs f a C N O=>?_;apply brQ N<;>intro N
 .refine cm1 N C (λs o=>ZBw s o) λu w ag C N=>⟨_,rfl,?_⟩;refine neA eI λay ah C=>?_;refine lw21 N (λj x i=>([.it oL [j] i,.it oL [w] u,.box b8 [.int .i64 k,.int .i64 l,f],.it (El.ow oL) [f] xs,.box b7 [.int .i64 e.Prime,.int .i64 e.Degree,g],.it oL [g] e.Poly,.box b6 [.int .i64 0,.int .i64 0,(.slice Jh 0 0)]],i,x)) λj x ai i ab C N a7=>?_;apply brQ N<;>intro N
  .refine ixI slA N λaz N=>?_;refine ⟨λa6 y=>S ψ h y [.it oL [j] i,.it oL [w] u,.box b8 [.int .i64 k,.int .i64 l,f],.it (El.ow oL) [f] xs,.box b7 [.int .i64 e.Prime,.int .i64 e.Degree,g],.it oL [g] e.Poly,.box b6 [.int .i64 0,.int .i64 0,(.slice Jh 0 0)]]/\Zie i x a6=Jg ab,?_,?_⟩
   .apply brQ N<;>intro N
    .refine lp2 (os:=[.it oL [j] i,.it oL [w] u,.box b8 [.int .i64 k,.int .i64 l,f],.it (El.ow oL) [f] xs,.box b7 [.int .i64 e.Prime,.int .i64 e.Degree,g],.it oL [g] e.Poly,.box b6 [.int .i64 0,.int .i64 0,(.slice Jh 0 0)]]) N (pk C [0,1,2,3,4,5,6]) λb0 ac b1 aj b2 C N a8=>?_;refine ZF slA ?_;apply brQ N<;>intro N
     .exact wX
     .obtain ⟨xm,hq,rfl⟩:=omap N;obtain rfl:=oI a8;exact ⟨pk C [0,1,2,3,4,5,6],hq⟩
    .exact wX
   .rintro _ a6 y ⟨C,N⟩;exact wX
  .refine bV C 2 2 ?_;refine ZD oneA ?_;obtain ⟨b3,a9,N⟩:=obind N;refine Zcn C 2 rfl rfl rfl a9 λb4 al C=>?_;refine boxA λam C=>?_;obtain rfl:=oI N;obtain rfl:=oI a7;exact endM
 .exact wX
theorem ZJv {e v0 r} (N:Zlh e=Jg r) (i:sc h (El.sl eL) v0 e):CallsH P 95 #[v0] h (λv h'=>∃w0,v=.agg #[.int .i64 r.Levels,.int .i64 r.Columns,w0]/\S ψ h h' [.it (El.ow oL) [w0] r.Rows]):=by
 refine zS hψ ⟨an [[4,30],[8,37,42]],[],[],[(10,⟨[],.fin (rgs [(1,15),(0,1),(16,2)]),Jj⟩)]⟩ Tryz.func95 λC=>?_;refine new_S C λk s C=>?_;refine ixV i C.le N λl u f N=>?_;refine vL f C.le ?_;refine vL i C.le ?_;refine neA oL λw x C=>?_;refine ZD oneA ?_;refine new_S C λo y C=>?_;(iterate 3 refine boxA λa2 C=>?_);refine lw12 N (λj xs g=>([.box o [.int .i64 (l.length:Int),.int .i64 (Y.wrap ((e.length:Int)+2)),g],.it (El.ow oL) [g] xs,.box k [.int .i64 0,.int .i64 0,(.slice Jh 0 0)]],j,xs)) λj a3 xs g a C N O=>?_;exact wX
theorem Zye {q0 m1 r} (N:Zop q0 m1=Jg r)  :zL 251 #[.int .i64 q0,.int .i64 m1] h ψ oL r:=by
 refine zS hψ ⟨an [[4,42],[8,54]],[],[],[(10,⟨kdL [0,0,0,2,0,0,0,3,0,4],.fin [5,6,7,0,1,2,3,4,8,9],true⟩)]⟩ Tryz.func251 λC=>?_;refine cm1 N C (λs o=>Zg6 s o) λf j ac C N=>⟨_,_,_,rfl,?_⟩;refine new_S C λb5 ae C=>?_;(iterate 3 refine boxA λaf C=>?_);refine cm1 N C (λs o=>Zr6 s o) λag l ah C N=>⟨_,rfl,?_⟩;refine lw11 N (λx7 xs=>([.it (El.ow oL) [l] xs,.box b5 [.int .i64 f.Prime,.int .i64 f.Degree,j],.it oL [j] f.Poly],x7,xs)) λx7 ai xs a C N O=>?_;apply brQ N<;>intro N
 .refine cl0 N C (λa6 _ _ u=>Znq a6.fle u (C.cells 1 rfl) slA) λaj ak C N=>⟨_,rfl,?_⟩;refine lw11 N (λy9 g=>([.it (El.ow oL) [l] g,.box b5 [.int .i64 f.Prime,.int .i64 f.Degree,j],.it oL [j] f.Poly],y9,g)) λy9 v g al C N O=>?_;apply brQ N<;>intro N
  .refine ⟨λ_=>False,?_⟩;have k:=C;have e:=eX v;obtain ⟨am,w,N⟩:=obind N;refine ce0 C (λs=>Zo0 s.fle w (C.cells 1 rfl) slA) λa9 xE C=>⟨_,rfl,eZ (e.trans xE),?_⟩;replace e:=e.trans xE;refine ixA slA N λao ap ad i N=>?_;refine Z8 ?_;refine Za9 k 0 rfl ad i λaq hd=>?_;refine ixA (C.rowC 0 rfl (hd.ext e) i (Zk _)) N λar au x y N=>?_;refine Zk1 C 0 rfl (hd.ext e) i x y rfl (λ_=>⟨rfl,rfl⟩) λab C=>?_;exact wX
  .exact wX
 .exact wX
omit hψ in
instance k71:Kn 251 (type_of% @Zye):=⟨@Zye⟩
theorem ZPh {a r} (N:ZlG a=Jg r)  :zL 172 #[.int .i64 a] h ψ (El.sl eL) r:=by
 refine zT [[3,19,24]] Tryz.func172 λC=>?_;refine ZW (E:=(El.sl eL)) (css:=[]) (xs:=([]:List Ja)) C (λ_=>rfl) rfl rfl λf e C=>?_;exact wX
end
theorem ZFQ {ψ:CM} {k h:Heap} {os:List Ob} {j:Za} {l:Nat} {a:Jc} {e:Jl} {q1:Int} {r:(List Ja)×Za} (N:Zkr j q1=Jg r) (C:S ψ k h (.box l (e::.int .i64 j.qat::.int .u64 j.qseed::a)::os)) (o:SlC (UB ψ k) (El.int .u8) e j.qcode):CallsH P 96 #[.pointer (Jg ⟨l,0,Jh⟩),.int .i64 q1] h (λv h'=>∃w0,v=w0/\S ψ k h' (.it (El.ow (El.sl eL)) [w0] r.1::.box l (e::.int .i64 r.2.qat::.int .u64 r.2.qseed::a)::os)):=by
 refine zv annO Tryz.func96 ?_;refine cm1 N C (λs hx=>ZPh s hx) λr8 v8 ae C N=>⟨_,rfl,?_⟩;refine ZF slA ?_;have C:S ψ k ae (.box l (e::.int .i64 j.qat::.int .u64 j.qseed::a)::.it (El.ow (El.sl eL)) [v8] r8::os):=pkT C 2 [1,0];obtain ⟨f,a4,N⟩:=obind N;obtain ⟨ak,ao,g,x⟩:=id C;refine (ZQ a4 (g.upS x) (o.mono g.ubU)).mono λap aq ⟨a5,y⟩=>⟨_,a5,?_⟩;replace C:=g.downS y;clear y g x;refine ZW (E:=(El.sl eL)) (css:=[]) (xs:=([]:List Ja)) C (λ_=>rfl) rfl rfl λar au C=>?_;obtain ⟨av,u,N⟩:=obind N;refine ZeB (Jg f.1) Jh slA u λaw hv=>?_;obtain ⟨ax,a6,N⟩:=obind N;refine app_S C 0 rfl (Zni 2 rfl hv u rfl ZgT) rfl rfl a6 λay az C=>?_;dsimp at C;obtain ⟨b1,w,N⟩:=obind N;refine ZeB Jh (Jg f.1) slA w λb2 a7=>?_;obtain ⟨af,a8,N⟩:=obind N;refine app_S C 0 rfl (Zni 2 rfl a7 w rfl ZgT) rfl rfl a8 λag ah C=>?_;dsimp at C;refine ZF slA ?_;have C:S ψ k ah (.box l (e::.int .i64 f.2.qat::.int .u64 f.2.qseed::a)::.it (El.ow (El.sl eL)) [ag] af::.it (El.ow (El.sl eL)) [v8] r8::os):=pkT C 3 [1,0,2];obtain ⟨ai,a9,N⟩:=obind N;obtain ⟨am,b3,i,a2⟩:=id C;refine (ZQ a9 (i.upS a2) (o.mono i.ubU)).mono λb4 b5 ⟨aa,a3⟩=>⟨_,aa,?_⟩;replace C:=i.downS a3;clear a3 i a2;obtain ⟨b6,ab,N⟩:=obind N;refine cut_S Jh (Jg (Y.wrap (ai.1+1))) C 1 rfl ab rfl λb7 C=>?_;exact wX
section
variable {ψ:CM} {h:Heap} (hψ:CLe ψ (hcell h))
include hψ
theorem ZOb {levels0 column1 r} (N:ZjV levels0 column1=Jg r)  :CallsH P 98 #[.int .i64 levels0,.int .i64 column1] h (λv h'=>∃w0,v=.tuple #[.agg #[.int .i64 r.1.Levels,.int .i64 r.1.Columns,w0],.int .i64 r.2]/\S ψ h h' [.it (El.ow oL) [w0] r.1.Rows]):=by
 refine zS hψ ⟨an [[8,48]],[],[],[(10,⟨kdL [0,2,0,0,0,3,3,4,0,4],.fin [2,3,4,5,6,0,1,7,8,9],true⟩)]⟩ Tryz.func98 λC=>?_;refine new_S C λu a6 C=>?_;refine cm0 N C (λs i=>ZtM s i) λa7 a8 C N=>⟨_,rfl,?_⟩;apply brQ N<;>intro N
 .exact wX
 .refine cm0 N C (λs i=>Zqy s i) λa9 aa C N=>⟨_,rfl,?_⟩;apply brQ N<;>intro N
  .exact wX
  .refine neA oL λab w C=>?_;refine ZD oneA ?_;refine new_S C λx y C=>?_;(iterate 3 refine boxA λa2 C=>?_);refine lw12 N (λo xs f=>([.box x [.int .i64 levels0,.int .i64 column1,f],.it (El.ow oL) [f] xs,.box u [.int .i64 0,.int .i64 0,(.slice Jh 0 0)]],o,xs)) λo j xs f a C N O=>?_;apply brQ N<;>intro N
   .refine ⟨λ_=>False,?_⟩;have g:=C;have e:=eX j;obtain ⟨ac,k,N⟩:=obind N;refine ce1 C (λs=>ZBw s.fle k) λad a3 xE C=>⟨_,rfl,eZ (e.trans xE),?_⟩;replace e:=e.trans xE;refine ZD oneA ?_;refine ZbL C λae a4 xE C=>⟨eZ (e.trans xE),?_⟩;replace e:=e.trans xE;refine Z8 ?_;refine ldV_K (g.cells 0 rfl) 2 rfl rfl ?_;have C:=C.pull 1 rfl;dsimp only [List.eraseIdx] at C;obtain ⟨af,l,N⟩:=obind N;refine Zas C 2 rfl 0 rfl rfl rfl l λag a5 xE C=>?_;exact wX
   .exact wX
end
theorem Zxp {ψ:CM} {l h:Heap} {os:List Ob} {y0:Za} {o:Nat} {e:Jc} {f:Jl} {r:ZE×Za} (N:Zkq y0=Jg r) (C:S ψ l h (.box o (f::.int .i64 y0.qat::.int .u64 y0.qseed::e)::os)) (i:SlC (UB ψ l) (El.int .u8) f y0.qcode):CallsH P 51 #[.pointer (Jg ⟨o,0,Jh⟩)] h (λv h'=>∃w0,v=.agg #[.int .i64 r.1.Levels,.int .i64 r.1.Columns,w0]/\S ψ l h' (.it (El.ow oL) [w0] r.1.Rows::.box o (f::.int .i64 r.2.qat::.int .u64 r.2.qseed::e)::os)):=by
 refine zv ⟨an [[6,54],[10,61,66],[23,48],[38]],an [[29],[36,825],[39]],[(36,[1,3,6])],[(36,⟨[],.both (.sg [0,1] (.both (.fin [2,3,5,6,7,4,8,9,10]) (.sg [5,6] (.both (.fin [2,3,7,4,8,9,10]) (.sg [7] (.both (.fin [2,3,4,8,9,10]) (.fin [4,8,2,3,9,10]))))))) (.sg [5,6] (.both (.sg [0,1] (.both (.fin [2,3,7,4,8,9,10]) (.sg [7] (.both (.fin [2,3,4,8,9,10]) (.fin [4,8,2,3,9,10]))))) (.sg [7] (.both (.sg [0,1] (.both (.fin [2,3,4,8,9,10]) (.fin [4,8,2,3,9,10]))) (.fin [4,8,0,1,2,3,9,10]))))),Jj⟩),(39,⟨kdL [0,2,0,1,3,4,0,4],.fin [2,3,4,0,1,5,6,7],true⟩)]⟩ Tryz.func51 ?_;refine new_S C λu e0 C=>?_;have C:S ψ l e0 (.box o (f::.int .i64 y0.qat::.int .u64 y0.qseed::e)::.box u [.int .i64 0,.int .i64 0,(.slice Jh 0 0)]::os):=pkT C 2 [1,0];obtain ⟨a6,hx,N⟩:=obind N;obtain ⟨φ,L,s,d5⟩:=id C;refine (ZQ hx (s.upS d5) (i.mono s.ubU)).mono λgo gp ⟨eq,t⟩=>⟨_,eq,?_⟩;replace C:=s.downS t;clear t s d5;obtain ⟨y,di,N⟩:=obind N;obtain ⟨fc,gq,b3,d6⟩:=id C;refine (ZQ di (b3.upS d6) (i.mono b3.ubU)).mono λgr gs ⟨dj,d7⟩=>⟨_,dj,?_⟩;replace C:=b3.downS d7;clear d7 b3 d6;refine neA oL λa9 gt C=>?_;refine ZD oneA ?_;refine new_S C λw gu C=>?_;(iterate 3 refine boxA λe1 C=>?_);refine ⟨λar=>∃q j xs g b4 b6,S ψ l ar (.box w [.int .i64 q,.int .i64 j,g]::.it (El.ow oL) [g] xs::.box o (f::.int .i64 b4::.int .u64 b6::e)::.box u [.int .i64 0,.int .i64 0,(.slice Jh 0 0)]::os)/\Zcw y0 q j xs b4 b6=Jg r,?_,?_⟩
 .have C:S ψ l e1 (.box o (f::.int .i64 y.2.qat::.int .u64 y.2.qseed::e)::.box w [.int .i64 (Y.wrap (a6.1+2)),.int .i64 (Y.wrap (y.1+1)),a9]::.it (El.ow oL) [a9] ([]:Ja)::.box u [.int .i64 0,.int .i64 0,(.slice Jh 0 0)]::os):=pkT C 4 [2,0,1,3];obtain ⟨b7,cf,N⟩:=obind N;obtain ⟨ea,fe,ad,bd⟩:=id C;refine (ZQ cf (ad.upS bd) (i.mono ad.ubU)).mono λff eb ⟨cg,be⟩=>⟨_,cg,?_⟩;replace C:=ad.downS be;clear be ad bd;apply brQ N<;>intro N
  .refine ZW (E:=eI) (css:=[[.int .i64 2],[.int .i64 3],[.int .i64 4],[.int .i64 5]]) (xs:=([2,3,4,5]:Jb)) C (λ_=>⟨[],[],rfl,⟨rfl,rfl⟩,⟨[],[],rfl,⟨rfl,rfl⟩,⟨[],[],rfl,⟨rfl,rfl⟩,⟨[],[],rfl,⟨rfl,rfl⟩,rfl⟩⟩⟩⟩) rfl rfl λe2 ch C=>?_;have C:=frA 0;have C:S ψ l ch (.box o (f::.int .i64 b7.2.qat::.int .u64 b7.2.qseed::e)::.it eL [e2] ([2,3,4,5]:Jb)::.box w [.int .i64 (Y.wrap (a6.1+2)),.int .i64 (Y.wrap (y.1+1)),a9]::.it (El.ow oL) [a9] ([]:Ja)::.box u [.int .i64 0,.int .i64 0,(.slice Jh 0 0)]::os):=pkT C 5 [1,0,2,3,4];obtain ⟨gv,cj,N⟩:=obind N;obtain ⟨ec,fg,aa,au⟩:=id C;refine (ZbV cj (aa.upS au) (i.mono aa.ubU) ((frF au 1 rfl).mono aa.ubF)).mono λfh ed ⟨ck,bf⟩=>⟨_,ck,?_⟩;replace C:=aa.downS bf;clear bf aa au;refine cm0 N C (λs hx=>ZH1 s hx) λgw ee C N=>⟨_,rfl,?_⟩;obtain ⟨gy,cm,N⟩:=obind N;obtain ⟨ef,fi,ae,bg⟩:=id C;refine (ZQ cm (ae.upS bg) (i.mono ae.ubU)).mono λfj eg ⟨cn,bh⟩=>⟨_,cn,?_⟩;replace C:=ae.downS bh;clear bh ae bg;obtain ⟨gz,co,N⟩:=obind N;obtain ⟨eh,fk,af,bi⟩:=id C;refine (ZQ co (af.upS bi) (i.mono af.ubU)).mono λfl ei ⟨cp,bj⟩=>⟨_,cp,?_⟩;replace C:=af.downS bj;clear bj af bi;refine cm1 N C (λs hx=>ZIy s hx) λh1 h2 ej C N=>⟨_,_,_,rfl,?_⟩;(iterate 3 refine boxA λek C=>?_);exact ⟨_,_,_,_,_,_,pkT C 6 [3,0,1,5],N⟩
  .apply brQ N<;>intro N
   .refine ZW (E:=eI) (css:=[[.int .i64 3],[.int .i64 4],[.int .i64 5],[.int .i64 7]]) (xs:=([3,4,5,7]:Jb)) C (λ_=>⟨[],[],rfl,⟨rfl,rfl⟩,⟨[],[],rfl,⟨rfl,rfl⟩,⟨[],[],rfl,⟨rfl,rfl⟩,⟨[],[],rfl,⟨rfl,rfl⟩,rfl⟩⟩⟩⟩) rfl rfl λd8 cq C=>?_;have C:=frA 0;have C:S ψ l cq (.box o (f::.int .i64 b7.2.qat::.int .u64 b7.2.qseed::e)::.it eL [d8] ([3,4,5,7]:Jb)::.box w [.int .i64 (Y.wrap (a6.1+2)),.int .i64 (Y.wrap (y.1+1)),a9]::.it (El.ow oL) [a9] ([]:Ja)::.box u [.int .i64 0,.int .i64 0,(.slice Jh 0 0)]::os):=pkT C 5 [1,0,2,3,4];obtain ⟨h3,cr,N⟩:=obind N;obtain ⟨em,fm,ab,av⟩:=id C;refine (ZbV cr (ab.upS av) (i.mono ab.ubU) ((frF av 1 rfl).mono ab.ubF)).mono λfn en ⟨ct,bk⟩=>⟨_,ct,?_⟩;replace C:=ab.downS bk;clear bk ab av;obtain ⟨b8,cu,N⟩:=obind N;obtain ⟨eo,fo,ag,bm⟩:=id C;refine (ZFQ cu (ag.upS bm) (i.mono ag.ubU)).mono λfp ep ⟨e3,cv,bn⟩=>⟨_,cv,?_⟩;replace C:=ag.downS bn;clear bn ag bm;refine cm1 N C (λs hx=>ZJv s hx slA) λbo d9 er C N=>⟨_,_,_,rfl,?_⟩;(iterate 3 refine boxA λes C=>?_);refine bI C 4 1 ?_;apply brQ N<;>intro N
    .refine boxA λet C=>?_;obtain ⟨e4,aw⟩:=ZP N;refine ⟨λda y8 b9=>S ψ l b9 (.it (El.ow oL) [d9] bo.Rows::.it (El.ow (El.sl eL)) [e3] b8.1::.box o (f::.int .i64 b8.2.qat::.int .u64 b8.2.qseed::e)::.it eL [d8] ([3,4,5,7]:Jb)::.box w [.int .i64 bo.Levels,.int .i64 8,d9]::.it (El.ow oL) [a9] ([]:Ja)::.box u [.int .i64 0,.int .i64 0,(.slice Jh 0 0)]::os)/\loopN (ZzL y0 b8 bo) da y8=Jg r,⟨e4,pkT C 7 [0,1,2,3,4,5,6],aw⟩,?_⟩;rintro da _ y8 b9 ⟨C,aw⟩;obtain ⟨h4,h5,rfl,N,dk⟩:=ZN aw;refine bV C 4 2 ?_;refine ZF slA ?_;apply brQ N<;>intro N
     .cases N
     .obtain ⟨xm,hq,rfl⟩:=omap N;obtain rfl:=oI dk;exact ⟨_,_,_,_,_,_,pkT C 7 [4,0,2,6],hq⟩
    .exact ⟨_,_,_,_,_,_,pkT C 7 [4,0,2,6],N⟩
   .apply brQ N<;>intro N
    .refine cm0 N C (λs hx=>Zqy s hx) λfr eu C N=>⟨_,rfl,?_⟩;apply brQ N<;>intro N
     .refine cm1 N C (λs hx=>ZOb s hx) λfs ft ew C N=>⟨_,_,_,_,rfl,?_⟩;(iterate 3 refine boxA λey C=>?_);exact ⟨_,_,_,_,_,_,pkT C 5 [2,0,1,4],N⟩
     .exact ⟨_,_,_,_,_,_,pkT C 4 [1,2,0,3],N⟩
    .obtain ⟨h6,cx,N⟩:=obind N;obtain ⟨ez,fu,ah,bp⟩:=id C;refine (ZQ cx (ah.upS bp) (i.mono ah.ubU)).mono λfv f0 ⟨cy,bq⟩=>⟨_,cy,?_⟩;replace C:=ah.downS bq;clear bq ah bp;obtain ⟨e6,ax⟩:=ZP N;refine ⟨λdb y9 ba=>∃br ay a4 a2,S ψ l ba (.box o (f::.int .i64 br::.int .u64 ay::e)::.box w [.int .i64 (Y.wrap (a6.1+2)),.int .i64 (Y.wrap (y.1+1)),a2]::.it (El.ow oL) [a2] a4::.box u [.int .i64 0,.int .i64 0,(.slice Jh 0 0)]::os)/\loopN (Zrc y0 a6 y) db (y9,br,ay,a4)=Jg r,⟨e6,_,_,_,_,pkT C 4 [0,1,2,3],ax⟩,?_⟩;rintro db _ y9 ba ⟨br,ay,a4,a2,C,ax⟩;obtain ⟨h7,e7,rfl,N,bs⟩:=ZN ax;apply brQ N<;>intro N
     .refine neA eI λh8 f1 C=>?_;obtain ⟨e8,az⟩:=ZP N;refine ⟨λdc bt dd ai=>∃bb aj ak,S ψ l ai (.it oL [bt] bb::.box o (f::.int .i64 aj::.int .u64 ak::e)::.box w [.int .i64 (Y.wrap (a6.1+2)),.int .i64 (Y.wrap (y.1+1)),a2]::.it (El.ow oL) [a2] a4::.box u [.int .i64 0,.int .i64 0,(.slice Jh 0 0)]::os)/\loopN (Zsf y0 a6 y y9 a4) dc (bb,dd,aj,ak)=Jg e7,⟨e8,_,_,_,pkT C 5 [0,1,2,3,4],az⟩,?_⟩;rintro dc _ bt dd ai ⟨bb,aj,ak,C,az⟩;obtain ⟨h9,ha,rfl,N,bu⟩:=ZN az;apply brQ N<;>intro N
      .have C:S ψ l ai (.box o (f::.int .i64 aj::.int .u64 ak::e)::.it oL [bt] bb::.box w [.int .i64 (Y.wrap (a6.1+2)),.int .i64 (Y.wrap (y.1+1)),a2]::.it (El.ow oL) [a2] a4::.box u [.int .i64 0,.int .i64 0,(.slice Jh 0 0)]::os):=pkT C 5 [1,0,2,3,4];obtain ⟨hb,cz,N⟩:=obind N;obtain ⟨f2,fw,al,bv⟩:=id C;refine (ZQ cz (al.upS bv) (i.mono al.ubU)).mono λfx f3 ⟨d0,bw⟩=>⟨_,d0,?_⟩;replace C:=al.downS bw;clear bw al bv;refine puA N 1 λhc hd f4 C N=>?_;obtain rfl:=oI N;exact ⟨_,ltS,_,_,_,pkT C 5 [1,0,2,3,4],bu⟩
      .refine bV C 2 2 ?_;refine ZD oneA ?_;obtain ⟨he,d1,N⟩:=obind N;refine Zcn C 2 rfl rfl rfl d1 λhf f5 C=>?_;refine boxA λf6 C=>?_;obtain rfl:=oI N;obtain rfl:=oI bu;exact ⟨_,ltS,_,_,_,_,pkT C 4 [0,1,2,3],bs⟩
     .obtain ⟨xm,hq,rfl⟩:=omap N;obtain rfl:=oI bs;exact ⟨_,_,_,_,_,_,pkT C 4 [1,2,0,3],hq⟩
 .rintro _ ar ⟨q,j,xs,g,b4,b6,C,N⟩;have C:S ψ l ar (.box o (f::.int .i64 b4::.int .u64 b6::e)::.box w [.int .i64 q,.int .i64 j,g]::.it (El.ow oL) [g] xs::.box u [.int .i64 0,.int .i64 0,(.slice Jh 0 0)]::os):=pkT C 4 [2,0,1,3];obtain ⟨k,dn,N⟩:=obind N;obtain ⟨fy,hg,bc,de⟩:=id C;refine (ZQ dn (bc.upS de) (i.mono bc.ubU)).mono λhh fz ⟨dp,df⟩=>⟨_,dp,?_⟩;replace C:=bc.downS df;clear df bc de;apply brQ N<;>intro N
  .refine ZW (E:=eI) (css:=[[.int .i64 1],[.int .i64 16],[.int .i64 17],[.int .i64 2]]) (xs:=([1,16,17,2]:Jb)) C (λ_=>⟨[],[],rfl,⟨rfl,rfl⟩,⟨[],[],rfl,⟨rfl,rfl⟩,⟨[],[],rfl,⟨rfl,rfl⟩,⟨[],[],rfl,⟨rfl,rfl⟩,rfl⟩⟩⟩⟩) rfl rfl λdq dr C=>?_;have C:=frA 0;have C:S ψ l dr (.box o (f::.int .i64 k.2.qat::.int .u64 k.2.qseed::e)::.it eL [dq] ([1,16,17,2]:Jb)::.box w [.int .i64 q,.int .i64 j,g]::.it (El.ow oL) [g] xs::.box u [.int .i64 0,.int .i64 0,(.slice Jh 0 0)]::os):=pkT C 5 [1,0,2,3,4];obtain ⟨g0,ds,N⟩:=obind N;obtain ⟨g1,hj,ap,bx⟩:=id C;refine (ZbV ds (ap.upS bx) (i.mono ap.ubU) ((frF bx 1 rfl).mono ap.ubF)).mono λhk g2 ⟨dt,dg⟩=>⟨_,dt,?_⟩;replace C:=ap.downS dg;clear dg ap bx;refine boxA λg3 C=>?_;refine lsA ?_;(iterate 3 refine boxA λg4 C=>?_);refine lsA ?_;obtain rfl:=oI N;exact ⟨g,rfl,pkT C 5 [3,0]⟩
  .apply brQ N<;>intro N
   .refine bI C 1 1 ?_;refine ZW (E:=eI) (css:=[[.int .i64 0],[.int .i64 9],[.int .i64 (Y.wrap (j+1))]]) (xs:=([0,9,Y.wrap (j+1)]:Jb)) C (λ_=>⟨[],[],rfl,⟨rfl,rfl⟩,⟨[],[],rfl,⟨rfl,rfl⟩,⟨[],[],rfl,⟨rfl,rfl⟩,rfl⟩⟩⟩) rfl rfl λdu dv C=>?_;have C:=frA 0;have C:S ψ l dv (.box o (f::.int .i64 k.2.qat::.int .u64 k.2.qseed::e)::.it eL [du] ([0,9,Y.wrap (j+1)]:Jb)::.box w [.int .i64 q,.int .i64 j,g]::.it (El.ow oL) [g] xs::.box u [.int .i64 0,.int .i64 0,(.slice Jh 0 0)]::os):=pkT C 5 [1,0,2,3,4];obtain ⟨g5,dw,N⟩:=obind N;obtain ⟨g6,hl,aq,bz⟩:=id C;refine (ZbV dw (aq.upS bz) (i.mono aq.ubU) ((frF bz 1 rfl).mono aq.ubF)).mono λhm g7 ⟨dx,dh⟩=>⟨_,dx,?_⟩;replace C:=aq.downS dh;clear dh aq bz;refine boxA λg8 C=>?_;refine lsA ?_;(iterate 3 refine boxA λg9 C=>?_);refine lsA ?_;obtain rfl:=oI N;exact ⟨g,rfl,pkT C 5 [3,0]⟩
   .apply brQ N<;>intro N
    .refine ⟨λc0 c3=>S ψ l c3 (.box o (f::.int .i64 k.2.qat::.int .u64 k.2.qseed::e)::.box w [.int .i64 q,.int .i64 j,g]::.it (El.ow oL) [g] xs::.box u [.int .i64 0,.int .i64 0,(.slice Jh 0 0)]::os)/\Zlb y0 q j xs k c0=Jg r,?_,?_⟩
     .refine bV C 1 2 ?_;refine ZF slA ?_;apply brQ N<;>intro N
      .refine bI C 1 1 ?_;exact ⟨pkT C 4 [0,1,2,3],N⟩
      .exact ⟨pkT C 4 [0,1,2,3],N⟩
     .rintro _ c0 c3 ⟨C,N⟩;apply brQ N<;>intro N
      .obtain ⟨c4,a3,N⟩:=obind N;obtain ⟨a5,c5,N⟩:=obind N;obtain ⟨ga,c6,N⟩:=obind N;repeat' first
        | refine And.intro ?_ ?_
        | (refine ldV_K (C.cells 1 rfl) 2 rfl rfl ?_)
        | (refine ZS (C.rdL 2 rfl (ZO (Zk _))) a3 λi0 b5=>?_;have C:=C.pin0 2 rfl;dsimp at C)
        | (refine Zbh C 2 rfl b5 a3 λdl C=>?_;dsimp at C)
        | (refine ldI_K (C.cells 1 rfl) 0 rfl rfl ?_)
        | (refine ZW (E:=eI) (css:=[[.int .i64 (-1)],[.int .i64 q],[.int .i64 0]]) (xs:=([(-1),q,0]:Jb)) C (λ_=>⟨[],[],rfl,⟨rfl,rfl⟩,⟨[],[],rfl,⟨rfl,rfl⟩,⟨[],[],rfl,⟨rfl,rfl⟩,rfl⟩⟩⟩) rfl rfl λa7 hZ C=>?_;have C:=C.freeze 0 rfl (ZO (Zk _));dsimp at C)
        | (refine ZS (C.rowP 3 rfl 0 rfl a3 (Zk _)) c6 λkq b5=>?_)
        | (refine ZjG C 3 rfl 0 rfl a3 b5 c6 rfl (λ_=>⟨rfl,rfl⟩) λhZ C=>?_;dsimp at C)
        | (refine ldI_K (C.cells 2 rfl) 0 rfl rfl ?_)
        | (refine ldI_K (C.cells 2 rfl) 1 rfl rfl ?_)
        | (refine ldV_K (C.cells 2 rfl) 2 rfl rfl ?_)
        | (refine ZcH C 4 rfl rfl rfl rfl λhZ C=>?_;refine ZcH C 4 rfl rfl rfl rfl λhZ C=>?_;refine ZcH C 4 rfl rfl rfl (C.rdP 3 rfl (Zk _)).one λhZ C=>?_;dsimp at C)
        | (refine ldI_K (C.cells 4 rfl) 0 rfl rfl ?_)
        | (refine ldI_K (C.cells 4 rfl) 1 rfl rfl ?_)
        | (refine ldV_K (C.cells 4 rfl) 2 rfl rfl ?_)
        | (refine ZW (E:=eI) (css:=[[.int .i64 (-1)],[.int .i64 q],[.int .i64 0]]) (xs:=([(-1),q,0]:Jb)) C (λ_=>⟨[],[],rfl,⟨rfl,rfl⟩,⟨[],[],rfl,⟨rfl,rfl⟩,⟨[],[],rfl,⟨rfl,rfl⟩,rfl⟩⟩⟩) rfl rfl λa7 hZ C=>?_)
        | (refine ZS (C.rdL 3 rfl (ZO (Zk _))) a3 λi0 b5=>?_;have C:=C.pin0 3 rfl;dsimp at C)
        | (refine Zbh C 3 rfl b5 a3 λdl C=>?_;dsimp at C;have C:=C.freeze 0 rfl (ZO (Zk _));dsimp at C)
        | (refine Zbh C 3 rfl b5 a3 λdl C=>?_;dsimp at C)
        | (have C:S ψ l _ (.box o (f::.int .i64 k.2.qat::.int .u64 k.2.qseed::e)::.it eL [a7] ([(-1),q,0]:Jb)::.box w [.int .i64 q,.int .i64 j,g]::.it (El.pins eI [((0:Int).toNat,dl)]) [g] xs::.box u [.int .i64 0,.int .i64 0,(.slice Jh 0 0)]::os):=pkT C 5 [1,0,2,3,4];obtain ⟨jd,LZ,sZ,rZ⟩:=id C;refine (ZbV c5 (sZ.upS rZ) (i.mono sZ.ubU) ((frF rZ 1 rfl).mono sZ.ubF)).mono λvZ hZ ⟨hu,tZ⟩=>⟨_,hu,?_⟩;replace C:=sZ.downS tZ;clear tZ sZ rZ)
        | (obtain rfl:=oI N;have C:S ψ l _ (.box o (f::.int .i64 a5.2.qat::.int .u64 a5.2.qseed::e)::.it eL [a7] ([(-1),q,0]:Jb)::.box w [.int .i64 q,.int .i64 j,g]::.it (El.ow oL) [g] (xs.set (0:Int).toNat (c4.set (0:Int).toNat a5.1))::.box u [.int .i64 q,.int .i64 j,g]::os):=C.unpin 3 rfl;exact ⟨g,rfl,pkT C 5 [3,0]⟩)
        | (obtain rfl:=oI N;have C:S ψ l _ (.box o (f::.int .i64 a5.2.qat::.int .u64 a5.2.qseed::e)::.it eL [a7] ([(-1),q,0]:Jb)::.box w [.int .i64 q,.int .i64 j,g]::.it (El.ow oL) [g] (xs.set (0:Int).toNat (c4.set (0:Int).toNat a5.1))::.box u [.int .i64 q,.int .i64 j,g]::os):=C.unpin 3 rfl;exact ⟨g,rfl,pkT C 5 [3,0]⟩;have C:=C.freeze 0 rfl (ZO (Zk _));dsimp at C)
        | (have C:S ψ l _ (.box o (f::.int .i64 k.2.qat::.int .u64 k.2.qseed::e)::.it eL [a7] ([(-1),q,0]:Jb)::.box w [.int .i64 q,.int .i64 j,g]::.it (El.ow oL) [g] xs::.box u [.int .i64 0,.int .i64 0,(.slice Jh 0 0)]::os):=pkT C 5 [1,0,2,3,4];obtain ⟨jd,LZ,sZ,rZ⟩:=id C;refine (ZbV c5 (sZ.upS rZ) (i.mono sZ.ubU) ((frF rZ 1 rfl).mono sZ.ubF)).mono λvZ hZ ⟨hu,tZ⟩=>⟨_,hu,?_⟩;replace C:=sZ.downS tZ;clear tZ sZ rZ)
      .refine lsA ?_;(iterate 3 refine boxA λgb C=>?_);refine lsA ?_;obtain rfl:=oI N;exact ⟨g,rfl,pkT C 4 [2,0]⟩
    .apply brQ N<;>intro N
     .obtain ⟨e9,hn⟩:=ZP N;refine ⟨λn c7=>∃c8 c9 ac x,S ψ l c7 (.box o (f::.int .i64 c8::.int .u64 c9::e)::.box w [.int .i64 q,.int .i64 j,x]::.it (El.ow oL) [x] ac::.box u [.int .i64 0,.int .i64 0,(.slice Jh 0 0)]::os)/\loopN (Zqx y0 q j) n (c8,c9,ac)=Jg r,⟨e9,_,_,_,_,pkT C 4 [0,1,2,3],hn⟩,?_⟩;rintro n _ c7 ⟨c8,c9,ac,x,C,hn⟩;obtain ⟨m,a,rfl,N,O⟩:=ZN hn;refine ⟨λb1=>∃ca cb,S ψ l b1 (.box o (f::.int .i64 ca::.int .u64 cb::e)::.box w [.int .i64 q,.int .i64 j,x]::.it (El.ow oL) [x] ac::.box u [.int .i64 0,.int .i64 0,(.slice Jh 0 0)]::os)/\ZpE ac ca cb=Jg a,?_,?_⟩
      .obtain ⟨gc,d2,N⟩:=obind N;obtain ⟨f7,gd,am,cc⟩:=id C;refine (ZbT d2 (am.upS cc) (i.mono am.ubU)).mono λge gg ⟨d3,cd⟩=>⟨_,d3,?_⟩;replace C:=am.downS cd;clear cd am cc;apply brQ N<;>intro N
       .refine bV C 1 2 ?_;refine ZF slA ?_;apply brQ N<;>intro N
        .refine bV C 1 2 ?_;refine ZF slA ?_;apply brQ N<;>intro N
         .exact ⟨_,_,pkT C 4 [0,1,2,3],N⟩
         .refine lsA ?_;(iterate 3 refine boxA λf8 C=>?_);refine lsA ?_;obtain rfl:=oI N;obtain rfl:=oI O;exact ⟨x,rfl,pkT C 4 [2,0]⟩
        .refine lsA ?_;(iterate 3 refine boxA λf9 C=>?_);refine lsA ?_;obtain rfl:=oI N;obtain rfl:=oI O;exact ⟨x,rfl,pkT C 4 [2,0]⟩
       .refine lsA ?_;(iterate 3 refine boxA λfa C=>?_);refine lsA ?_;obtain rfl:=oI N;obtain rfl:=oI O;exact ⟨x,rfl,pkT C 4 [2,0]⟩
      .rintro _ b1 ⟨ca,cb,C,N⟩;refine ⟨λ_=>False,?_⟩;have ce:=C;have ao:=eX b1;refine bV C 1 2 ?_;obtain ⟨gh,dz,N⟩:=obind N;refine ce1 C (λs=>ZzB s.fle dz slA) λgi gj xE C=>⟨_,rfl,eZ (ao.trans xE),?_⟩;replace ao:=ao.trans xE;refine Z8 ?_;refine ldV_K (ce.cells 1 rfl) 2 rfl rfl ?_;obtain ⟨gk,d4,N⟩:=obind N;refine ZFa C 2 rfl rfl rfl d4 λgl gm C=>?_;refine boxA λgn C=>?_;obtain rfl:=oI N;exact ⟨_,ltS,_,_,_,_,pkT C 4 [0,1,2,3],O⟩
     .refine lsA ?_;(iterate 3 refine boxA λfb C=>?_);refine lsA ?_;obtain rfl:=oI N;exact ⟨g,rfl,pkT C 4 [2,0]⟩
instance k72:Kn 51 (type_of% @Zxp):=⟨@Zxp⟩
section
variable {ψ:CM} {h:Heap} (hψ:CLe ψ (hcell h))
include hψ
theorem Zyu {a0 a f e r} (N:ZoU a0 f=Jg r) (g:sc h eI a a0.Poly) (i:sc h eI e f.Poly):zR 102 #[.agg #[.int .i64 a0.Prime,.int .i64 a0.Degree,a],.agg #[.int .i64 f.Prime,.int .i64 f.Degree,e]] h ψ (.bool r):=by
 refine zO Tryz.func102 λC=>?_;exact wX
omit hψ in
instance k73:Kn 102 (type_of% @Zyu):=⟨@Zyu⟩
theorem ZCK {f g i r} (N:Zln f=Jg r) (u:sc h eI g f.Field.Poly) (w:sc h eL i f.Rows):CallsH P 52 #[.agg #[.int .i64 f.Field.Prime,.int .i64 f.Field.Degree,g,i]] h (λv h'=>∃w0,v=.tuple #[.agg #[.int .i64 r.1.Kind,.int .i64 r.1.Size,w0],.int .i64 r.2]/\S ψ h h' [.it (El.ow eL) [w0] r.1.Rows]):=by
 refine zS hψ ⟨[],[],[],[(4,⟨kdL [0,2,0,3,4,0],.fin [2,3,0,1,4,5],true⟩)]⟩ Tryz.func52 λC=>?_;refine new_S C λb1 y C=>?_;refine new_S C λb2 a2 C=>?_;refine cl0 N C (λs _ _ x=>Zsk s.fle x (C.cells 1 rfl) slA slA) λr5 a3 C N=>⟨_,rfl,?_⟩;apply brQ N<;>intro N
 .exact wX
 .refine cl0 N C (λl _ _ j=>Zeo l.fle j (CellsC.part 0 3 (C.cells 1 rfl)) slA) λr9 o C N=>⟨_,rfl,?_⟩;refine ⟨λ_=>False,?_⟩;have a:=C;have e:=eX o;obtain ⟨a4,k,N⟩:=obind N;refine ce1 C (λs=>Zg6 s.fle k) λa5 a6 xE C=>⟨_,_,_,rfl,eZ (e.trans xE),?_⟩;replace e:=e.trans xE;refine Z9 ?_;refine ldI_K (a.cells 1 rfl) 0 rfl rfl ?_;refine Z9 ?_;refine ldI_K (a.cells 1 rfl) 1 rfl rfl ?_;refine Z8 ?_;refine ldV_K (a.cells 1 rfl) 2 rfl rfl ?_;exact wX
omit hψ in
instance k74:Kn 52 (type_of% @ZCK):=⟨@ZCK⟩
end
theorem ZPB {ψ:CM} {g h:Heap} {os:List Ob} {f:Za} {i:Nat} {e:Jc} {a:Jl} {r:Zd×Za} (N:Zr1 f=Jg r) (C:S ψ g h (.box i (a::.int .i64 f.qat::.int .u64 f.qseed::e)::os)) (j:SlC (UB ψ g) (El.int .u8) a f.qcode):CallsH P 104 #[.pointer (Jg ⟨i,0,Jh⟩)] h (λv k=>∃w0,v=.agg #[.int .i64 r.1.Prime,.int .i64 r.1.Degree,w0]/\S ψ g k (.it oL [w0] r.1.Poly::.box i (a::.int .i64 r.2.qat::.int .u64 r.2.qseed::e)::os)):=by
 refine zv annO Tryz.func104 ?_;exact wX
theorem ZHz {ψ:CM} {l h:Heap} {os:List Ob} {s0:Za} {x:Nat} {e:Jc} {g:Jl} {i:Zd} {y:Nat} {f:Jc} {j:Jl} {n2:Int} {r:Jb×Za} (N:Znw s0 i n2=Jg r) (C:S ψ l h (.box x (g::.int .i64 s0.qat::.int .u64 s0.qseed::e)::.box y (.int .i64 i.Prime::.int .i64 i.Degree::j::f)::os)) (aa:SlC (UB ψ l) (El.int .u8) g s0.qcode) (ah:SlC (UB ψ l) eI j i.Poly):CallsH P 181 #[.pointer (Jg ⟨x,0,Jh⟩),.pointer (Jg ⟨y,0,Jh⟩),.int .i64 n2] h (λv h'=>∃w0,v=w0/\S ψ l h' (.it oL [w0] r.1::.box x (g::.int .i64 r.2.qat::.int .u64 r.2.qseed::e)::.box y (.int .i64 i.Prime::.int .i64 i.Degree::j::f)::os)):=by
 refine zv ⟨an [[2,12,43]],an [[7,48]],[],[]⟩ Tryz.func181 ?_;refine neA eI λv9 ak C=>?_;obtain ⟨ae,hn⟩:=ZP N;refine ⟨λn o v7 a6=>∃k q u,S ψ l a6 (.it oL [v7] k::.box x (g::.int .i64 q::.int .u64 u::e)::.box y (.int .i64 i.Prime::.int .i64 i.Degree::j::f)::os)/\loopN (Zp1 s0 i) n (o,k,q,u)=Jg r,⟨ae,_,_,_,pkT C 3 [0,1,2],hn⟩,?_⟩;rintro n _ o v7 a6 ⟨k,q,u,C,hn⟩;obtain ⟨m,a,rfl,N,O⟩:=ZN hn;apply brQ N<;>intro N
 .refine cl0 N C (λs _ _ hx=>Zeo s.fle hx (CellsC.part 0 3 (C.cells 2 rfl)) slA) λal af C N=>⟨_,rfl,?_⟩;have C:S ψ l af (.box x (g::.int .i64 q::.int .u64 u::e)::.it oL [v7] k::.box y (.int .i64 i.Prime::.int .i64 i.Degree::j::f)::os):=pkT C 3 [1,0,2];obtain ⟨am,ac,N⟩:=obind N;obtain ⟨aj,ao,w,a7⟩:=id C;refine (ZQ ac (w.upS a7) (aa.mono w.ubU)).mono λap aq ⟨ad,a8⟩=>⟨_,ad,?_⟩;replace C:=w.downS a8;clear a8 w a7;refine ⟨λx8 a9=>∃a3 a4,S ψ l a9 (.box x (g::.int .i64 a3::.int .u64 a4::e)::.it oL [v7] k::.box y (.int .i64 i.Prime::.int .i64 i.Degree::j::f)::os)/\Zif o k x8 a3 a4=Jg a,?_,?_⟩
  .exact wX
  .rintro _ x8 a9 ⟨a3,a4,C,N⟩;exact wX
 .exact wX
theorem ZGl {ψ:CM} {l h:Heap} {os:List Ob} {s0:Za} {o:Nat} {e:Jc} {j:Jl} {i:Zd} {u:Nat} {f:Jc} {k:Jl} {a8 au:Int} {r:Ja×Za} (N:ZnL s0 i a8 au=Jg r) (C:S ψ l h (.box o (j::.int .i64 s0.qat::.int .u64 s0.qseed::e)::.box u (.int .i64 i.Prime::.int .i64 i.Degree::k::f)::os)) (w:SlC (UB ψ l) (El.int .u8) j s0.qcode) (a9:SlC (UB ψ l) eI k i.Poly):CallsH P 105 #[.pointer (Jg ⟨o,0,Jh⟩),.pointer (Jg ⟨u,0,Jh⟩),.int .i64 a8,.int .i64 au] h (λv h'=>∃w0,v=w0/\S ψ l h' (.it (El.ow oL) [w0] r.1::.box o (j::.int .i64 r.2.qat::.int .u64 r.2.qseed::e)::.box u (.int .i64 i.Prime::.int .i64 i.Degree::k::f)::os)):=by
 refine zv ⟨an [[2,55]],an [[5,159],[6,61]],[(5,[3,6])],[(5,⟨[],.both (.sg [1,2,3] (.both (.fin [4,5,6,8,9,7,10,0,11,12]) (.sg [8,9] (.both (.fin [4,5,6,7,10,0,11,12]) (.fin [7,10,4,5,6,0,11,12]))))) (.both (.sg [4,5,6] (.both (.fin [1,2,3,8,9,7,10,0,11,12]) (.sg [8,9] (.both (.fin [1,2,3,7,10,0,11,12]) (.fin [7,10,1,2,3,0,11,12]))))) (.sg [8,9] (.both (.sg [1,2,3] (.both (.fin [4,5,6,7,10,0,11,12]) (.fin [7,10,4,5,6,0,11,12]))) (.both (.sg [4,5,6] (.both (.fin [1,2,3,7,10,0,11,12]) (.fin [7,10,1,2,3,0,11,12]))) (.sg [7,10] (.both (.fin [1,2,3,4,5,6,0,11,12]) (.fin [4,5,6,1,2,3,0,11,12]))))))),Jj⟩)]⟩ Tryz.func105 ?_;refine neA oL λav aw C=>?_;obtain ⟨aq,hn⟩:=ZP N;refine ⟨λn v9 ad=>∃g q ab,S ψ l ad (.it (El.ow oL) [v9] g::.box o (j::.int .i64 q::.int .u64 ab::e)::.box u (.int .i64 i.Prime::.int .i64 i.Degree::k::f)::os)/\loopN (ZoS s0 i a8 au) n (g,q,ab)=Jg r,⟨aq,_,_,_,pkT C 3 [0,1,2],hn⟩,?_⟩;rintro n _ v9 ad ⟨g,q,ab,C,hn⟩;obtain ⟨m,a,rfl,N,O⟩:=ZN hn;refine ZF slA ?_;apply brQ N<;>intro N
 .have C:S ψ l ad (.box o (j::.int .i64 q::.int .u64 ab::e)::.box u (.int .i64 i.Prime::.int .i64 i.Degree::k::f)::.it (El.ow oL) [v9] g::os):=pkT C 3 [1,2,0];obtain ⟨x,hx,N⟩:=obind N;obtain ⟨φ,L,s,ah⟩:=id C;refine (ZHz hx (s.upS ah) (w.mono s.ubU) (a9.mono s.ubU)).mono λax ay ⟨a4,eq,t⟩=>⟨_,eq,?_⟩;replace C:=s.downS t;clear t s ah;refine ⟨λai aj=>∃aa ae af,S ψ l aj (.it oL [ai] aa::.box o (j::.int .i64 ae::.int .u64 af::e)::.box u (.int .i64 i.Prime::.int .i64 i.Degree::k::f)::.it (El.ow oL) [v9] g::os)/\ZiL g aa ae af=Jg a,?_,?_⟩
  .refine ⟨λak al=>∃y a2,S ψ l al (.it oL [a4] x.1::.box o (j::.int .i64 y::.int .u64 a2::e)::.box u (.int .i64 i.Prime::.int .i64 i.Degree::k::f)::.it (El.ow oL) [v9] g::os)/\Zhv s0 i g x ak y a2=Jg a,?_,?_⟩
   .exact wX
   .rintro _ ak al ⟨y,a2,C,N⟩;apply brQ N<;>intro N
    .obtain ⟨az,a5,N⟩:=obind N;obtain ⟨b2,a6,N⟩:=obind N;obtain ⟨b3,ap,N⟩:=obind N;obtain ⟨am,a7,N⟩:=obind N;obtain ⟨ar,ag,N⟩:=obind N;repeat' first
      | refine And.intro ?_ ?_
      | (refine ZS (C.rdL 3 rfl (ZO (Zk _))) a5 λbm b5=>?_;have C:=C.pin0 3 rfl;dsimp at C)
      | (refine Zbh C 3 rfl b5 a5 λb8 C=>?_;dsimp at C)
      | (refine ZS (C.rdP 3 rfl (Zk _)) a6 λbk b5=>?_)
      | (refine Zbh C 3 rfl b5 a6 λbb C=>?_;dsimp at C)
      | (refine ZS (C.rdL 3 rfl (ZO (Zk _))) a6 λbk b5=>?_;have C:=C.pin0 3 rfl;dsimp at C)
      | (refine ZS (C.rdP 3 rfl (Zk _)) a5 λbm b5=>?_)
      | (obtain ⟨b0,LZ,sZ,rZ⟩:=id C;refine (Zeo sZ.fle ap (CellsC.part 0 3 (C.cells 2 rfl)) (a9.mono C.leU)).mono λvZ hZ ⟨ao,tZ⟩=>⟨_,ao,?_⟩;replace C:=join0 sZ rZ tZ;clear tZ sZ rZ)
      | (have C:S ψ l _ (.box o (j::.int .i64 y::.int .u64 a2::e)::.it oL [a4] x.1::.box u (.int .i64 i.Prime::.int .i64 i.Degree::k::f)::.it (El.pins eI [((1:Int).toNat,bb),((0:Int).toNat,b8)]) [v9] g::os):=pkT C 4 [1,0,2,3];obtain ⟨b0,LZ,sZ,rZ⟩:=id C;refine (ZQ a7 (sZ.upS rZ) (w.mono sZ.ubU)).mono λvZ hZ ⟨ao,tZ⟩=>⟨_,ao,?_⟩;replace C:=sZ.downS tZ;clear tZ sZ rZ)
      | (obtain ⟨b0,LZ,sZ,rZ⟩:=id C;refine (ZsI sZ.fle ag (CellsC.part 0 3 (C.cells 2 rfl)) (a9.mono C.leU) (C.rowP 3 rfl 1 rfl a5 (Zk _)) (C.rowP 3 rfl 0 rfl a6 (Zk _))).mono λvZ hZ ⟨bg,ao,tZ⟩=>⟨_,ao,?_⟩;replace C:=join1 sZ rZ tZ;clear tZ sZ rZ)
      | (have C:S ψ l _ (.it oL [bg] ar::.box o (j::.int .i64 am.2.qat::.int .u64 am.2.qseed::e)::.it oL [a4] x.1::.box u (.int .i64 i.Prime::.int .i64 i.Degree::k::f)::.it (El.ow oL) [v9] g::os):=C.unpin 4 rfl;exact ⟨_,_,_,pkT C 5 [0,1,3,4],N⟩)
      | (have C:S ψ l _ (.box o (j::.int .i64 y::.int .u64 a2::e)::.it oL [a4] x.1::.box u (.int .i64 i.Prime::.int .i64 i.Degree::k::f)::.it (El.pins eI [((0:Int).toNat,b8)]) [v9] g::os):=pkT C 4 [1,0,2,3];obtain ⟨b0,LZ,sZ,rZ⟩:=id C;refine (ZQ a7 (sZ.upS rZ) (w.mono sZ.ubU)).mono λvZ hZ ⟨ao,tZ⟩=>⟨_,ao,?_⟩;replace C:=sZ.downS tZ;clear tZ sZ rZ)
      | (have C:S ψ l _ (.box o (j::.int .i64 y::.int .u64 a2::e)::.it oL [a4] x.1::.box u (.int .i64 i.Prime::.int .i64 i.Degree::k::f)::.it (El.pins eI [((0:Int).toNat,b8),((1:Int).toNat,bb)]) [v9] g::os):=pkT C 4 [1,0,2,3];obtain ⟨b0,LZ,sZ,rZ⟩:=id C;refine (ZQ a7 (sZ.upS rZ) (w.mono sZ.ubU)).mono λvZ hZ ⟨ao,tZ⟩=>⟨_,ao,?_⟩;replace C:=sZ.downS tZ;clear tZ sZ rZ)
      | (obtain ⟨b0,LZ,sZ,rZ⟩:=id C;refine (ZsI sZ.fle ag (CellsC.part 0 3 (C.cells 2 rfl)) (a9.mono C.leU) (C.rowP 3 rfl 0 rfl a5 (Zk _)) (C.rowP 3 rfl 1 rfl a6 (Zk _))).mono λvZ hZ ⟨bg,ao,tZ⟩=>⟨_,ao,?_⟩;replace C:=join1 sZ rZ tZ;clear tZ sZ rZ)
      | (have C:S ψ l _ (.box o (j::.int .i64 y::.int .u64 a2::e)::.it oL [a4] x.1::.box u (.int .i64 i.Prime::.int .i64 i.Degree::k::f)::.it (El.pins eI [((1:Int).toNat,bb)]) [v9] g::os):=pkT C 4 [1,0,2,3];obtain ⟨b0,LZ,sZ,rZ⟩:=id C;refine (ZQ a7 (sZ.upS rZ) (w.mono sZ.ubU)).mono λvZ hZ ⟨ao,tZ⟩=>⟨_,ao,?_⟩;replace C:=sZ.downS tZ;clear tZ sZ rZ)
      | (have C:S ψ l _ (.box o (j::.int .i64 y::.int .u64 a2::e)::.it oL [a4] x.1::.box u (.int .i64 i.Prime::.int .i64 i.Degree::k::f)::.it (El.ow oL) [v9] g::os):=pkT C 4 [1,0,2,3];obtain ⟨b0,LZ,sZ,rZ⟩:=id C;refine (ZQ a7 (sZ.upS rZ) (w.mono sZ.ubU)).mono λvZ hZ ⟨ao,tZ⟩=>⟨_,ao,?_⟩;replace C:=sZ.downS tZ;clear tZ sZ rZ)
    .exact wX
  .rintro _ ai aj ⟨aa,ae,af,C,N⟩;exact wX
 .exact wX
section
variable {ψ:CM} {h:Heap} (hψ:CLe ψ (hcell h))
include hψ
theorem Zxe {i j f r} (N:Zq6 i=Jg r) (g:CellsC (hcell h) j [.int .i64 i.Prime,.int .i64 i.Degree,f]) (l:sc h eI f i.Poly):CallsH P 183 #[.pointer (Jg j)] h (λv h'=>∃w0,v=.agg #[.int .i64 r.Prime,.int .i64 r.Degree,w0]/\S ψ h h' [.it oL [w0] r.Poly]):=by
 refine zS hψ ⟨[],[],[],[(1,⟨kdL [0,0,0,2,0,0,0,2,0,0,0,1,3,0,4],.fin (rgs [(8,5),(0,8),(13,2)]),true⟩)]⟩ Tryz.func183 λC=>?_;refine new_S C λy k C=>?_;refine ⟨λ_=>False,?_⟩;have e:=C;have a:=eX k;refine kV g C.le 2 ?_;obtain ⟨u,o,N⟩:=obind N;refine ce1 C (λs=>Zdv s.fle o slA) λw x xE C=>⟨_,rfl,eZ (a.trans xE),?_⟩;replace a:=a.trans xE;refine Z9 ?_;refine kI g e.le 0 ?_;refine Z9 ?_;refine kI g e.le 1 ?_;exact wX
omit hψ in
instance k75:Kn 183 (type_of% @Zxe):=⟨@Zxe⟩
theorem ZuI {e i f a v1 r} (N:ZoG e a=Jg r) (o:CellsC (hcell h) i [.int .i64 e.Prime,.int .i64 e.Degree,f]) (j:sc h eI f e.Poly) (k:SlC ψ eL v1 a):CallsH P 106 #[.pointer (Jg i),v1] h (λv u=>∃w0 w1,v=.tuple #[.agg #[.int .i64 r.1.Field.Prime,.int .i64 r.1.Field.Degree,w0,w1],.int .i64 r.2]/\S ψ h u [.it oL [w0] r.1.Field.Poly,.it (El.sl eL) [w1] r.1.Rows]):=by
 refine zU [] [[5]] Tryz.func106 λC=>?_;refine new_S C λl s C=>?_;refine vL k C.leF ?_;apply brQ N<;>intro N
 .exact wX
 .refine ⟨λg=>S ψ h g [.box l [.int .i64 0,.int .i64 0,(.slice Jh 0 0),(.slice Jh 0 0)]]/\Zr4 e a=Jg r,?_,?_⟩
  .exact wX
  .rintro _ g ⟨C,N⟩;exact wX
end
theorem ZCZ {ψ:CM} {l h:Heap} {os:List Ob} {s0:Za} {o:Nat} {e:Jc} {f:Jl} {r:ZM×Za} (N:ZnH s0=Jg r) (C:S ψ l h (.box o (f::.int .i64 s0.qat::.int .u64 s0.qseed::e)::os)) (g:SlC (UB ψ l) (El.int .u8) f s0.qcode):CallsH P 53 #[.pointer (Jg ⟨o,0,Jh⟩)] h (λv h'=>∃w0 w1,v=.agg #[.int .i64 r.1.Field.Prime,.int .i64 r.1.Field.Degree,w0,w1]/\S ψ l h' (.it eL [w0] r.1.Field.Poly::.it (El.sl eL) [w1] r.1.Rows::.box o (f::.int .i64 r.2.qat::.int .u64 r.2.qseed::e)::os)):=by
 refine zv ⟨[],an [[5,177],[7,24,30]],[(8,[2])],[(8,⟨[],.both (.fin (rgs [(0,8)])) (.fin [3,4,5,0,1,2,6,7]),Jj⟩)]⟩ Tryz.func53 ?_;refine new_S C λb2 c9 C=>?_;have C:S ψ l c9 (.box o (f::.int .i64 s0.qat::.int .u64 s0.qseed::e)::.box b2 [.int .i64 0,.int .i64 0,(.slice Jh 0 0),(.slice Jh 0 0)]::os):=pkT C 2 [1,0];obtain ⟨a,hx,N⟩:=obind N;obtain ⟨φ,L,s,bf⟩:=id C;refine (ZPB hx (s.upS bf) (g.mono s.ubU)).mono λe3 e4 ⟨i,eq,t⟩=>⟨_,_,_,eq,?_⟩;replace C:=s.downS t;clear t s bf;refine new_S C λb3 e5 C=>?_;(iterate 3 refine boxA λca C=>?_);have C:S ψ l ca (.box o (f::.int .i64 a.2.qat::.int .u64 a.2.qseed::e)::.box b3 [.int .i64 a.1.Prime,.int .i64 a.1.Degree,i]::.it oL [i] a.1.Poly::.box b2 [.int .i64 0,.int .i64 0,(.slice Jh 0 0),(.slice Jh 0 0)]::os):=pkT C 4 [2,0,1,3];obtain ⟨cb,bp,N⟩:=obind N;obtain ⟨d0,e6,a5,bg⟩:=id C;refine (ZQ bp (a5.upS bg) (g.mono a5.ubU)).mono λe7 e8 ⟨bq,bh⟩=>⟨_,bq,?_⟩;replace C:=a5.downS bh;clear bh a5 bg;obtain ⟨cc,br,N⟩:=obind N;obtain ⟨d1,e9,a6,bi⟩:=id C;refine (ZQ br (a6.upS bi) (g.mono a6.ubU)).mono λea eb ⟨bs,bj⟩=>⟨_,bs,?_⟩;replace C:=a6.downS bj;clear bj a6 bi;refine ⟨λk4 n5 aa=>∃q ab,S ψ l aa (.box o (f::.int .i64 q::.int .u64 ab::e)::.box b3 [.int .i64 a.1.Prime,.int .i64 a.1.Degree,i]::.it oL [i] a.1.Poly::.box b2 [.int .i64 0,.int .i64 0,(.slice Jh 0 0),(.slice Jh 0 0)]::os)/\ZhJ s0 a k4 n5 q ab=Jg r,?_,?_⟩
 .refine ⟨λbk ac=>∃ad ae,S ψ l ac (.box o (f::.int .i64 ad::.int .u64 ae::e)::.box b3 [.int .i64 a.1.Prime,.int .i64 a.1.Degree,i]::.it oL [i] a.1.Poly::.box b2 [.int .i64 0,.int .i64 0,(.slice Jh 0 0),(.slice Jh 0 0)]::os)/\Zfr s0 a cb cc bk ad ae=Jg r,?_,?_⟩
  .refine bI C 1 0 ?_;apply brQ N<;>intro N
   .refine bI C 1 1 ?_;apply brQ N<;>intro N
    .obtain ⟨ec,au,N⟩:=obind N;obtain ⟨ce,d2,u,af⟩:=id C;refine (ZbT au (u.upS af) (g.mono u.ubU)).mono λd3 d4 ⟨av,ag⟩=>⟨_,av,?_⟩;replace C:=u.downS ag;clear ag u af;exact ⟨_,_,pkT C 4 [0,1,2,3],N⟩
    .exact ⟨_,_,pkT C 4 [0,1,2,3],N⟩
   .exact ⟨_,_,pkT C 4 [0,1,2,3],N⟩
  .rintro _ bk ac ⟨ad,ae,C,N⟩;apply brQ N<;>intro N
   .obtain ⟨ed,aw,N⟩:=obind N;obtain ⟨cf,d5,w,ah⟩:=id C;refine (ZQ aw (w.upS ah) (g.mono w.ubU)).mono λd6 d7 ⟨ax,ai⟩=>⟨_,ax,?_⟩;replace C:=w.downS ai;clear ai w ah;obtain ⟨ee,ay,N⟩:=obind N;obtain ⟨cg,d8,x,aj⟩:=id C;refine (ZQ ay (x.upS aj) (g.mono x.ubU)).mono λd9 da ⟨az,ak⟩=>⟨_,az,?_⟩;replace C:=x.downS ak;clear ak x aj;exact ⟨_,_,pkT C 4 [0,1,2,3],N⟩
   .exact ⟨_,_,pkT C 4 [0,1,2,3],N⟩
 .rintro _ k4 n5 aa ⟨q,ab,C,N⟩;have C:=frA 2;obtain ⟨k,bt,N⟩:=obind N;obtain ⟨db,ef,a4,al⟩:=id C;refine (ZGl bt (a4.upS al) (g.mono a4.ubU) ((frF al 2 rfl).mono a4.ubF)).mono λeg am ⟨bm,bu,bn⟩=>⟨_,bu,?_⟩;replace C:=a4.downS bn;clear bn a4 al;obtain ⟨eh,j,N⟩:=obind N;obtain ⟨ei,ao,N⟩:=obind N;obtain ⟨ej,y,N⟩:=obind N;refine ⟨?_,?_⟩
  .refine ZS slA j λch bv=>?_;have C:=C.pin0 0 rfl;dsimp at C;refine Zbh C 0 rfl bv j λb1 C=>?_;dsimp at C;have C:S ψ l am (.box o (f::.int .i64 k.2.qat::.int .u64 k.2.qseed::e)::.it (El.pins eI [((0:Int).toNat,b1)]) [bm] k.1::.box b3 [.int .i64 a.1.Prime,.int .i64 a.1.Degree,i]::.it eL [i] a.1.Poly::.box b2 [.int .i64 0,.int .i64 0,(.slice Jh 0 0),(.slice Jh 0 0)]::os):=pkT C 5 [1,0,2,3,4];obtain ⟨dc,ek,a7,ap⟩:=id C;refine (ZQ ao (a7.upS ap) (g.mono a7.ubU)).mono λdd de ⟨bw,bo⟩=>⟨_,bw,?_⟩;replace C:=a7.downS bo;clear bo a7 ap;refine ZS (C.rowP 1 rfl 0 rfl j (Zk _)) y λcj bx=>?_;refine ZjG C 1 rfl 0 rfl j bx y rfl (λ_=>⟨rfl,rfl⟩) λdf C=>?_;dsimp at C;refine cl1 N C (λbz _ _ b4=>ZsD bz.fle b4 (C.cells 2 rfl) slA (C.rdP 1 rfl (Zk _))) λck cm dg C N=>⟨_,rfl,?_⟩;have C:=frA 0;refine cl2 N C (λc0 c3 _ b5=>ZuI c0.fle b5 (C.cells 3 rfl) slA (frF c3 0 rfl)) λcn b6 b7 dh C N=>⟨_,_,_,_,_,rfl,?_⟩;refine new_S C λdi dj C=>?_;(iterate 4 refine boxA λdk C=>?_);apply brQ N<;>intro N
   .refine lsA ?_;refine ZW (E:=eI) (css:=[[.int .i64 1]]) (xs:=([1]:Jb)) C (λ_=>⟨[],[],rfl,⟨rfl,rfl⟩,rfl⟩) rfl rfl λco dl C=>?_;refine ZD oneA ?_;have C:=frA 0;have C:=C.copyF 0 rfl;refine Zcp C λb8 dm C=>?_;refine ZD oneA ?_;(iterate 4 refine boxA λdn C=>?_);refine lsA ?_;have C:=frA 0;obtain rfl:=oI N;exact ⟨i,b8,rfl,pkT C 11 [9,0,6]⟩
   .refine lsA ?_;(iterate 4 refine boxA λdp C=>?_);refine lsA ?_;have C:=frA 1;obtain rfl:=oI N;exact ⟨b6,b7,rfl,pkT C 9 [1,2,4]⟩
  .have C:S ψ l am (.box o (f::.int .i64 k.2.qat::.int .u64 k.2.qseed::e)::.it (El.ow oL) [bm] k.1::.box b3 [.int .i64 a.1.Prime,.int .i64 a.1.Degree,i]::.it eL [i] a.1.Poly::.box b2 [.int .i64 0,.int .i64 0,(.slice Jh 0 0),(.slice Jh 0 0)]::os):=pkT C 5 [1,0,2,3,4];obtain ⟨cp,dq,a2,aq⟩:=id C;refine (ZQ ao (a2.upS aq) (g.mono a2.ubU)).mono λdr ds ⟨b9,ar⟩=>⟨_,b9,?_⟩;replace C:=a2.downS ar;clear ar a2 aq;refine ZS slA j λcq c4=>?_;have C:=C.pin0 1 rfl;dsimp at C;refine Zbh C 1 rfl c4 j λcr C=>?_;dsimp at C;refine ZS (C.rowP 1 rfl 0 rfl j (Zk _)) y λct c5=>?_;refine ZjG C 1 rfl 0 rfl j c5 y rfl (λ_=>⟨rfl,rfl⟩) λdt C=>?_;dsimp at C;refine cl1 N C (λc6 _ _ ba=>ZsD c6.fle ba (C.cells 2 rfl) slA (C.rdP 1 rfl (Zk _))) λcu cv du C N=>⟨_,rfl,?_⟩;have C:=frA 0;refine cl2 N C (λc7 c8 _ bb=>ZuI c7.fle bb (C.cells 3 rfl) slA (frF c8 0 rfl)) λcx bc bd dv C N=>⟨_,_,_,_,_,rfl,?_⟩;refine new_S C λdw dx C=>?_;(iterate 4 refine boxA λdy C=>?_);apply brQ N<;>intro N
   .refine lsA ?_;refine ZW (E:=eI) (css:=[[.int .i64 1]]) (xs:=([1]:Jb)) C (λ_=>⟨[],[],rfl,⟨rfl,rfl⟩,rfl⟩) rfl rfl λcy dz C=>?_;refine ZD oneA ?_;have C:=frA 0;have C:=C.copyF 0 rfl;refine Zcp C λbe e0 C=>?_;refine ZD oneA ?_;(iterate 4 refine boxA λe1 C=>?_);refine lsA ?_;have C:=frA 0;obtain rfl:=oI N;exact ⟨i,be,rfl,pkT C 11 [9,0,6]⟩
   .refine lsA ?_;(iterate 4 refine boxA λe2 C=>?_);refine lsA ?_;have C:=frA 1;obtain rfl:=oI N;exact ⟨bc,bd,rfl,pkT C 9 [1,2,4]⟩
instance k76:Kn 53 (type_of% @ZCZ):=⟨@ZCZ⟩
section
variable {ψ:CM} {h:Heap} (hψ:CLe ψ (hcell h))
include hψ
theorem ZxB {f a e r} (N:ZlS f=Jg r) (g:sc h eI a f.Colors) (i:sc h Zg e f.Edges):CallsH P 54 #[.agg #[a,e]] h (λv j=>∃w0,v=.tuple #[.agg #[.int .i64 r.1.Kind,.int .i64 r.1.Size,w0],.int .i64 r.2]/\S ψ h j [.it (El.ow eL) [w0] r.1.Rows]):=by
 refine zS hψ ⟨an [[5,25,30],[9,36]],[],[],[(7,⟨[],.fin (rgs [(1,14),(0,1),(15,2)]),Jj⟩)]⟩ Tryz.func54 λC=>?_;exact wX
omit hψ in
instance k77:Kn 54 (type_of% @ZxB):=⟨@ZxB⟩
theorem ZsG {f a e r} (N:Zb4 f=Jg r) (g:sc h eI a f.Colors) (i:sc h Zg e f.Edges):zL 187 #[.agg #[a,e]] h ψ (El.ow El.bool) r:=by
 refine zT [[4,25,30],[8,36]] Tryz.func187 λC=>?_;refine new_S C λo j C=>?_;refine bV C 0 0 ?_;refine vL g C.le ?_;refine neA (El.ow El.bool) λk l C=>?_;exact wX
omit hψ in
instance k78:Kn 187 (type_of% @ZsG):=⟨@ZsG⟩
theorem Zpu {colors0 v0 table1 v1 r} (N:Zez colors0 table1=Jg r) (x:sc h eI v0 colors0) (f1:sc h (El.sl El.bool) v1 table1):CallsH P 188 #[v0,v1] h (λv h'=>∃w0 w1,v=.agg #[w0,w1]/\S ψ h h' [.it oL [w0] r.Colors,.it (El.ow Zg) [w1] r.Edges]):=by
 refine zT [[3,36],[6,42]] Tryz.func188 λC=>?_;refine new_S C λy a8 C=>?_;refine cm1 N C (λs hx=>Zdv s hx slA) λr9 j a9 C N=>⟨_,rfl,?_⟩;refine neA Zg λaa ab C=>?_;refine ZD oneA ?_;refine ZD oneA ?_;refine new_S C λb5 ac C=>?_;(iterate 2 refine boxA λad C=>?_);refine lw12 N (λk xs g=>([.box b5 [j,g],.it (El.ow Zg) [g] xs,.it oL [j] r9,.box y [(.slice Jh 0 0),(.slice Jh 0 0)]],k,xs)) λk ae xs g a C N O=>?_;refine vL x C.le ?_;apply brQ N<;>intro N
 .refine lw12 N (λl e i=>([.box b5 [j,i],.it (El.ow Zg) [i] e,.it oL [j] r9,.box y [(.slice Jh 0 0),(.slice Jh 0 0)]],l,e)) λl af e i ag C N O=>?_;refine vL x C.le ?_;apply brQ N<;>intro N
  .refine ixV f1 C.le N λah ai f N=>?_;refine ixA slA N λaj ak o u N=>?_;refine ldB_C slA o u ?_;apply brQ N<;>intro N
   .refine bV C 0 1 ?_;obtain ⟨al,w,N⟩:=obind N;refine ZcA C 1 rfl (λ_=>⟨[.int .i64 k],[.int .i64 l],[],[],rfl,rfl,⟨rfl,rfl⟩,⟨rfl,rfl⟩⟩) rfl rfl w λam a7 C=>?_;exact wX
   .exact wX
  .exact wX
 .exact wX
omit hψ in
instance k79:Kn 188 (type_of% @Zpu):=⟨@Zpu⟩
end
theorem Zvi {ψ:CM} {i h:Heap} {os:List Ob} {j:Za} {k:Nat} {e:Jc} {f:Jl} {y1:Int} {r:Zb×Za} (N:Zkx j y1=Jg r) (C:S ψ i h (.box k (f::.int .i64 j.qat::.int .u64 j.qseed::e)::os)) (a6:SlC (UB ψ i) (El.int .u8) f j.qcode):CallsH P 109 #[.pointer (Jg ⟨k,0,Jh⟩),.int .i64 y1] h (λv h'=>∃w0 w1,v=.agg #[w0,w1]/\S ψ i h' (.it oL [w0] r.1.Colors::.it (El.ow Zg) [w1] r.1.Edges::.box k (f::.int .i64 r.2.qat::.int .u64 r.2.qseed::e)::os)):=by
 refine zv ⟨an [[4,31,42],[10,60],[13,66]],an [[24,75]],[],[]⟩ Tryz.func109 ?_;refine new_S C λb4 br C=>?_;refine neA eI λb6 b7 C=>?_;have C:S ψ i b7 (.box k (f::.int .i64 j.qat::.int .u64 j.qseed::e)::.it oL [b6] ([]:Jb)::.box b4 [(.slice Jh 0 0),(.slice Jh 0 0)]::os):=pkT C 3 [2,0,1];obtain ⟨b8,hx,N⟩:=obind N;obtain ⟨φ,L,s,ak⟩:=id C;refine (ZQ hx (s.upS ak) (a6.mono s.ubU)).mono λbs bt ⟨eq,t⟩=>⟨_,eq,?_⟩;replace C:=s.downS t;clear t s ak;obtain ⟨b9,hn⟩:=ZP N;refine ⟨λn v5 y7 al=>∃l q w,S ψ i al (.box k (f::.int .i64 q::.int .u64 w::e)::.it oL [v5] l::.box b4 [(.slice Jh 0 0),(.slice Jh 0 0)]::os)/\loopN (Zs7 j y1 b8) n (l,y7,q,w)=Jg r,⟨b9,_,_,_,pkT C 3 [0,1,2],hn⟩,?_⟩;rintro n _ v5 y7 al ⟨l,q,w,C,hn⟩;obtain ⟨m,a,rfl,N,O⟩:=ZN hn;apply brQ N<;>intro N
 .exact wX
 .refine ZD oneA ?_;obtain ⟨bb,az,N⟩:=obind N;obtain ⟨bi,bu,a7,am⟩:=id C;refine (ZsG a7.fle az slA SlC.nil).mono λbv bc ⟨x,b1,ao⟩=>⟨_,b1,?_⟩;replace C:=join1 a7 am ao;clear ao a7 am;have C:S ψ i bc (.box k (f::.int .i64 q::.int .u64 w::e)::.it (El.ow (El.ow El.bool)) [x] bb::.it oL [v5] l::.box b4 [(.slice Jh 0 0),(.slice Jh 0 0)]::os):=pkT C 4 [1,0,2,3];obtain ⟨ap,b2,N⟩:=obind N;obtain ⟨bj,bw,y,aq⟩:=id C;refine (ZQ b2 (y.upS aq) (a6.mono y.ubU)).mono λbx bz ⟨b3,ar⟩=>⟨_,b3,?_⟩;replace C:=y.downS ar;clear ar y aq;obtain ⟨bd,o⟩:=ZP N;refine ⟨λau a2 a8=>∃a9 aa xs,S ψ i a8 (.box k (f::.int .i64 a9::.int .u64 aa::e)::.it (El.ow (El.ow El.bool)) [x] xs::.it oL [v5] l::.box b4 [(.slice Jh 0 0),(.slice Jh 0 0)]::os)/\loopN (ZtB j y1 l ap) au (a2,a9,aa,xs)=Jg a,⟨bd,_,_,_,pkT C 4 [0,1,2,3],o⟩,?_⟩;rintro au _ a2 a8 ⟨a9,aa,xs,C,o⟩;obtain ⟨c0,be,rfl,N,ab⟩:=ZN o;apply brQ N<;>intro N
  .obtain ⟨bf,u⟩:=ZP N;refine ⟨λav ac ad=>∃ae af g,S ψ i ad (.box k (f::.int .i64 ae::.int .u64 af::e)::.it (El.ow (El.ow El.bool)) [x] g::.it oL [v5] l::.box b4 [(.slice Jh 0 0),(.slice Jh 0 0)]::os)/\loopN (Zrd j y1 ap a2) av (ac,ae,af,g)=Jg be,⟨bf,_,_,_,pkT C 4 [0,1,2,3],u⟩,?_⟩;rintro av _ ac ad ⟨ae,af,g,C,u⟩;obtain ⟨c3,bg,rfl,N,b5⟩:=ZN u;apply brQ N<;>intro N
   .refine ⟨λaw ag=>∃ah ai,S ψ i ag (.box k (f::.int .i64 ah::.int .u64 ai::e)::.it (El.ow (El.ow El.bool)) [x] g::.it oL [v5] l::.box b4 [(.slice Jh 0 0),(.slice Jh 0 0)]::os)/\ZbK a2 ac g aw ah ai=Jg bg,?_,?_⟩
    .exact wX
    .rintro _ aw ag ⟨ah,ai,C,N⟩;exact wX
   .obtain rfl:=oI N;obtain rfl:=oI b5;exact wX
  .refine cm2 N C (λs hx=>Zpu s hx slA slA) λc4 c5 bh bk C N=>⟨_,_,rfl,?_⟩;refine new_S C λc6 bm C=>?_;(iterate 2 refine boxA λbn C=>?_);refine bV C 0 1 ?_;refine ZF slA ?_;apply brQ N<;>intro N
   .refine bV C 0 1 ?_;obtain ⟨c7,aj,N⟩:=obind N;refine cut_S Jh (Jg 512) C 2 rfl aj rfl λc8 C=>?_;refine boxA λbo C=>?_;refine lsA ?_;(iterate 2 refine boxA λbp C=>?_);refine lsA ?_;obtain rfl:=oI N;obtain rfl:=oI ab;obtain rfl:=oI O;exact wX
   .refine lsA ?_;(iterate 2 refine boxA λbq C=>?_);refine lsA ?_;obtain rfl:=oI N;obtain rfl:=oI ab;obtain rfl:=oI O;exact wX
instance k80:Kn 109 (type_of% @Zvi):=⟨@Zvi⟩
theorem ZxK {ψ:CM} {g h:Heap} {os:List Ob} {f:Za} {i:Nat} {e:Jc} {a:Jl} {r:Zb×Za} (N:ZlM f=Jg r) (C:S ψ g h (.box i (a::.int .i64 f.qat::.int .u64 f.qseed::e)::os)) (j:SlC (UB ψ g) (El.int .u8) a f.qcode):CallsH P 55 #[.pointer (Jg ⟨i,0,Jh⟩)] h (λv k=>∃w0 w1,v=.agg #[w0,w1]/\S ψ g k (.it oL [w0] r.1.Colors::.it (El.ow Zg) [w1] r.1.Edges::.box i (a::.int .i64 r.2.qat::.int .u64 r.2.qseed::e)::os)):=by
 refine zv ⟨an [[3,24]],[],[],[]⟩ Tryz.func55 ?_;exact wX
instance k81:Kn 55 (type_of% @ZxK):=⟨@ZxK⟩
section
variable {ψ:CM} {h:Heap} (hψ:CLe ψ (hcell h))
include hψ
theorem Zuy {e a r} (N:Zqq e=Jg r) (f:sc h eL a e.Elements):CallsH P 56 #[.agg #[.int .i64 e.Degree,a]] h (λv g=>∃w0,v=.tuple #[.agg #[.int .i64 r.1.Kind,.int .i64 r.1.Size,w0],.int .i64 r.2]/\S ψ h g [.it (El.ow eL) [w0] r.1.Rows]):=by
 refine zO Tryz.func56 λC=>?_;exact wX
omit hψ in
instance k82:Kn 56 (type_of% @Zuy):=⟨@Zuy⟩
theorem ZfM {n0 a1 a r} (N:Zcs n0 a1 a=Jg r)  :zL 189 #[.int .i64 n0,.int .i64 a1,.int .i64 a] h ψ eI r:=by
 refine zT [[3,43,48]] Tryz.func189 λC=>?_;exact wX
omit hψ in
instance k83:Kn 189 (type_of% @ZfM):=⟨@ZfM⟩
end
theorem ZNe {ψ:CM} {w h:Heap} {os:List Ob} {s0:Za} {x:Nat} {e:Jc} {f:Jl} {r:Int×Ja×Za} (N:Zij s0=Jg r) (C:S ψ w h (.box x (f::.int .i64 s0.qat::.int .u64 s0.qseed::e)::os)) (g:SlC (UB ψ w) (El.int .u8) f s0.qcode):CallsH P 110 #[.pointer (Jg ⟨x,0,Jh⟩)] h (λv h'=>∃w0,v=.tuple #[.int .i64 r.1,w0]/\S ψ w h' (.it (El.ow eL) [w0] r.2.1::.box x (f::.int .i64 r.2.2.qat::.int .u64 r.2.2.qseed::e)::os)):=by
 refine zv ⟨an [[13,31,36]],[],[],[]⟩ Tryz.func110 ?_;obtain ⟨r8,i,N⟩:=obind N;obtain ⟨φ,L,s,ag⟩:=id C;refine (ZQ i (s.upS ag) (g.mono s.ubU)).mono λbp bq ⟨eq,t⟩=>⟨_,eq,?_⟩;replace C:=s.downS t;clear t s ag;obtain ⟨ah,ap,N⟩:=obind N;obtain ⟨ba,br,y,ai⟩:=id C;refine (ZQ ap (y.upS ai) (g.mono y.ubU)).mono λbs bt ⟨aq,aj⟩=>⟨_,aq,?_⟩;replace C:=y.downS aj;clear aj y ai;apply brQ N<;>intro N
 .exact wX
 .apply brQ N<;>intro N
  .refine cm1 N C (λs i=>ZfM s i) λbu bv bw C N=>⟨_,rfl,?_⟩;refine cm1 N C (λs i=>ZfM s i) λbx bz c0 C N=>⟨_,rfl,?_⟩;refine ZD oneA ?_;refine ZD oneA ?_;have C:=frA 0;have C:=C.copyF 0 rfl;have C:=frA 2;have C:=C.copyF 2 rfl;refine ZtN C λc3 c4 C=>?_;exact wX
  .apply brQ N<;>intro N
   .refine ZW (E:=eI) (css:=[[.int .i64 5],[.int .i64 7],[.int .i64 11],[.int .i64 13]]) (xs:=([5,7,11,13]:Jb)) C (λ_=>⟨[],[],rfl,⟨rfl,rfl⟩,⟨[],[],rfl,⟨rfl,rfl⟩,⟨[],[],rfl,⟨rfl,rfl⟩,⟨[],[],rfl,⟨rfl,rfl⟩,rfl⟩⟩⟩⟩) rfl rfl λak b1 C=>?_;have C:=frA 0;have C:S ψ w b1 (.box x (f::.int .i64 ah.2.qat::.int .u64 ah.2.qseed::e)::.it eL [ak] ([5,7,11,13]:Jb)::os):=pkT C 2 [1,0];obtain ⟨al,ar,N⟩:=obind N;obtain ⟨bb,c5,o,a3⟩:=id C;refine (ZbV ar (o.upS a3) (g.mono o.ubU) ((frF a3 1 rfl).mono o.ubF)).mono λc6 bc ⟨au,am⟩=>⟨_,au,?_⟩;replace C:=o.downS am;clear am o a3;refine cm1 N C (λs i=>ZfM s i) λb2 b3 bd C N=>⟨_,rfl,?_⟩;refine ZW (E:=eI) (css:=[[.int .i64 2],[.int .i64 3],[.int .i64 4]]) (xs:=([2,3,4]:Jb)) C (λ_=>⟨[],[],rfl,⟨rfl,rfl⟩,⟨[],[],rfl,⟨rfl,rfl⟩,⟨[],[],rfl,⟨rfl,rfl⟩,rfl⟩⟩⟩) rfl rfl λb4 av C=>?_;have C:=frA 0;have C:S ψ w av (.box x (f::.int .i64 al.2.qat::.int .u64 al.2.qseed::e)::.it eL [b4] ([2,3,4]:Jb)::.it oL [b3] b2::.it eL [ak] ([5,7,11,13]:Jb)::os):=pkT C 4 [2,0,1,3];obtain ⟨c7,aw,N⟩:=obind N;obtain ⟨be,c8,u,a4⟩:=id C;refine (ZbV aw (u.upS a4) (g.mono u.ubU) ((frF a4 1 rfl).mono u.ubF)).mono λc9 bf ⟨ax,ao⟩=>⟨_,ax,?_⟩;replace C:=u.downS ao;clear ao u a4;refine cm1 N C (λs i=>ZfM s i) λca cb bg C N=>⟨_,rfl,?_⟩;refine ZD oneA ?_;refine ZD oneA ?_;have C:=frA 0;have C:=C.copyF 0 rfl;have C:=frA 4;have C:=C.copyF 4 rfl;refine ZtN C λcc bh C=>?_;exact wX
   .obtain ⟨a5,ac,N⟩:=obind N;obtain ⟨b8,bi,j,a6⟩:=id C;refine (ZQ ac (j.upS a6) (g.mono j.ubU)).mono λbj bk ⟨ad,a7⟩=>⟨_,ad,?_⟩;replace C:=j.downS a7;clear a7 j a6;refine neA eL λb5 ay C=>?_;have C:S ψ w ay (.box x (f::.int .i64 a5.2.qat::.int .u64 a5.2.qseed::e)::.it (El.ow eL) [b5] ([]:Ja)::os):=pkT C 2 [1,0];obtain ⟨cd,ae,N⟩:=obind N;obtain ⟨b9,bm,k,a8⟩:=id C;refine (ZQ ae (k.upS a8) (g.mono k.ubU)).mono λbn bo ⟨af,a9⟩=>⟨_,af,?_⟩;replace C:=k.downS a9;clear a9 k a8;obtain ⟨b6,hn⟩:=ZP N;refine ⟨λn v5 k6 aa=>∃l q ab,S ψ w aa (.box x (f::.int .i64 q::.int .u64 ab::e)::.it (El.ow eL) [v5] l::os)/\loopN (Zjk s0 a5) n (l,k6,q,ab)=Jg r,⟨b6,_,_,_,pkT C 2 [0,1],hn⟩,?_⟩;rintro n _ v5 k6 aa ⟨l,q,ab,C,hn⟩;obtain ⟨m,a,rfl,N,O⟩:=ZN hn;exact wX
theorem ZzI {ψ:CM} {i h:Heap} {os:List Ob} {f:Za} {j:Nat} {a:Jc} {e:Jl} {r:Zal×Za} (N:Zl2 f=Jg r) (C:S ψ i h (.box j (e::.int .i64 f.qat::.int .u64 f.qseed::a)::os)) (u:SlC (UB ψ i) (El.int .u8) e f.qcode):CallsH P 57 #[.pointer (Jg ⟨j,0,Jh⟩)] h (λv h'=>∃w0,v=.agg #[.int .i64 r.1.Degree,w0]/\S ψ i h' (.it (El.ow eL) [w0] r.1.Elements::.box j (e::.int .i64 r.2.qat::.int .u64 r.2.qseed::a)::os)):=by
 refine zv ⟨[],an [[5,31]],[],[]⟩ Tryz.func57 ?_;refine new_S C λx y C=>?_;have C:S ψ i y (.box j (e::.int .i64 f.qat::.int .u64 f.qseed::a)::.box x [.int .i64 0,(.slice Jh 0 0)]::os):=pkT C 2 [1,0];obtain ⟨k,w,N⟩:=obind N;obtain ⟨φ,L,s,l⟩:=id C;refine (ZNe w (s.upS l) (u.mono s.ubU)).mono λa4 a5 ⟨v9,eq,t⟩=>⟨_,_,eq,?_⟩;replace C:=s.downS t;clear t s l;refine cm1 N C (λs w=>Zo5 s w slA) λa6 a7 a8 C N=>⟨_,_,rfl,?_⟩;refine ⟨λv5 o=>∃g,S ψ i o (.it (El.ow eL) [v5] g::.it (El.ow eL) [v9] k.2.1::.box j (e::.int .i64 k.2.2.qat::.int .u64 k.2.2.qseed::a)::.box x [.int .i64 0,(.slice Jh 0 0)]::os)/\Zi5 f k g=Jg r,?_,?_⟩
 .exact wX
 .rintro _ v5 o ⟨g,C,N⟩;exact wX
instance k84:Kn 57 (type_of% @ZzI):=⟨@ZzI⟩
theorem ZMW {ψ:CM} {l h:Heap} {os:List Ob} {f:Za} {o:Nat} {a:Jc} {e:Jl} {r:Zf×Za} (N:ZkN f=Jg r) (C:S ψ l h (.box o (e::.int .i64 f.qat::.int .u64 f.qseed::a)::os)) (w:SlC (UB ψ l) (El.int .u8) e f.qcode):CallsH P 20 #[.pointer (Jg ⟨o,0,Jh⟩)] h (λv h'=>∃w0,v=.agg #[.int .i64 r.1.Kind,.int .i64 r.1.Size,w0]/\S ψ l h' (.it (El.ow eL) [w0] r.1.Rows::.box o (e::.int .i64 r.2.qat::.int .u64 r.2.qseed::a)::os)):=by
 refine zv ⟨[],an [[18,24]],[],[]⟩ Tryz.func20 ?_;refine new_S C λx a2 C=>?_;refine new_S C λy a3 C=>?_;(iterate 3 refine boxA λa4 C=>?_);refine ⟨λu s=>∃q g xs i j k,S ψ l s (.box y [.int .i64 q,.int .i64 g,i]::.box x [.int .i64 0,.int .i64 0,(.slice Jh 0 0)]::.box o (e::.int .i64 j::.int .u64 k::a)::.it (El.ow eL) [i] xs::os)/\Za8 f u q g xs j k=Jg r,?_,?_⟩
 .exact wX
 .rintro _ u s ⟨q,g,xs,i,j,k,C,N⟩;exact wX
section
variable {ψ:CM} {h:Heap} (hψ:CLe ψ (hcell h))
include hψ
theorem Zy4 {a r} (N:Zbv a=Jg r)  :zR 113 #[.int .u8 a] h ψ (.bool r):=by
 refine zO Tryz.func113 λC=>?_;exact wX
omit hψ in
instance k85:Kn 113 (type_of% @Zy4):=⟨@Zy4⟩
theorem Zzz {a r} (N:Zea a=Jg r)  :zR 114 #[.int .u8 a] h ψ (.bool r):=by
 refine zO Tryz.func114 λC=>?_;exact wX
omit hψ in
instance k86:Kn 114 (type_of% @Zzz):=⟨@Zzz⟩
theorem ZEr {e r} (N:ZiW e=Jg r)  :zR 58 #[.string e] h ψ (.bool r):=by
 refine zU [[4,18]] [[3]] Tryz.func58 λC=>?_;refine ⟨λa=>S ψ h a []/\Zrp e=Jg r,?_,?_⟩
 .exact wX
 .rintro _ a ⟨C,N⟩;exact wX
theorem ZOf {x0 i a r} (N:ZlH x0=Jg r) (j:CellsC (hcell h) i [.string x0.Name,.int .i64 x0.Object.Kind,.int .i64 x0.Object.Size,a,.string x0.Key]) (o:sc h eL a x0.Object.Rows):zR 22 #[.pointer (Jg i)] h ψ (.bool r):=by
 refine zO Tryz.func22 λC=>?_;refine kS j C.le 0 ?_;refine cm0 N C (λs u=>ZEr s u) λr7 w C N=>⟨_,rfl,?_⟩;refine brY λN=>?_;obtain ⟨x,f,N⟩:=obind N;obtain ⟨v,y,e,k⟩:=id C;refine (Ziy (CLe.refl _) f (CellsC.part 1 3 slA) slA).mono λa2 a3 ⟨g,l⟩=>⟨_,g,?_⟩;replace C:=join0 e k (l.weak e.fle);exact wX
theorem ZpY {a0 g e a p1 f r} (N:Zgi a0 a=Jg r) (k:CellsC (hcell h) g [.string a0.Name,.int .i64 a0.Object.Kind,.int .i64 a0.Object.Size,e,.string a0.Key]) (i:sc h eL e a0.Object.Rows) (l:CellsC (hcell h) p1 [.string a.Name,.int .i64 a.Object.Kind,.int .i64 a.Object.Size,f,.string a.Key]) (j:sc h eL f a.Object.Rows):zR 23 #[.pointer (Jg g),.pointer (Jg p1)] h ψ (.bool r):=by
 refine zO Tryz.func23 λC=>?_;exact wX
omit hψ in
instance k87:Kn 23 (type_of% @ZpY):=⟨@ZpY⟩
theorem Zq2 {k p0 i r} (N:Zjv k=Jg r) (g:CellsC (hcell h) p0 [i]) (e:sc h Zaf i k.Items):zR 11 #[.pointer (Jg p0)] h ψ (.bool r):=by
 refine zU [[2,18],[7,24]] [[6]] Tryz.func11 λC=>?_;refine lp1 N (nlS C) λm y3 ak a C N O=>?_;refine kV g C.le 0 ?_;refine vL e C.le ?_;apply brQ N<;>intro N
 .refine ⟨λj=>S ψ h j []/\ZhB k y3=Jg a,?_,?_⟩
  .refine kV g C.le 0 ?_;refine ixA slA N λal am l o N=>?_;obtain ⟨aa,ab,u⟩:=e.cells l o rfl;obtain ⟨ao,rfl,ap⟩:=ZaV u;refine cm0 N C (λs v=>ZOf s v slA slA) λaq ar C N=>⟨_,rfl,?_⟩;refine brZ λN=>?_;refine brY λN=>?_;refine kV g C.le 0 ?_;refine ixA slA N λau av w x N=>?_;obtain ⟨ac,ae,y⟩:=e.cells w x rfl;obtain ⟨aw,rfl,ax⟩:=ZaV y;refine lsA ?_;refine ixA slA N λay az a2 a3 N=>?_;obtain ⟨af,ag,a4⟩:=e.cells a2 a3 rfl;obtain ⟨b0,rfl,b1⟩:=ZaV a4;exact wX
  .rintro _ j ⟨C,N⟩;refine lp1 N (nlS C) λb2 y4 b3 b4 C N O=>?_;apply brQ N<;>intro N
   .refine kV g C.le 0 ?_;refine ixA slA N λb5 b6 ad v N=>?_;obtain ⟨cs,ck,hr⟩:=e.cells ad v rfl;obtain ⟨b7,rfl,f⟩:=ZaV hr;refine kV g C.le 0 ?_;refine ixA slA N λb8 b9 a5 a6 N=>?_;obtain ⟨ai,aj,a7⟩:=e.cells a5 a6 rfl;obtain ⟨ba,rfl,bb⟩:=ZaV a7;exact wX
   .exact wX
 .exact wX
omit hψ in
instance k88:Kn 11 (type_of% @Zq2):=⟨@Zq2⟩
theorem ZuW {y v0 y1 r} (N:Zj1 y y1=Jg r) (f0:sc h eL v0 y):CallsH P 310 #[v0,.bool y1] h (λv h'=>∃w0 w1,v=.agg #[w0,w1]/\S ψ h h' [.it oL [w0] r.Colors,.it (El.ow Zg) [w1] r.Edges]):=by
 refine zU [[4,42],[11,54],[15,60],[18,66],[21,72]] [[9,48],[24,507]] Tryz.func310 λC=>?_;refine new_S C λk aj C=>?_;refine vL f0 C.le ?_;refine new_S C λl ak C=>?_;(iterate 2 refine boxA λal C=>?_);have C:=C.nilO (E:=eI);refine lw12 N (λy7 xs i=>([.box l [i,(.slice Jh 0 0)],.box k [(.slice Jh 0 0),(.slice Jh 0 0)],.it oL [i] xs],y7,xs)) λy7 am xs i a C N O=>?_;apply brQ N<;>intro N
 .refine ⟨λy8 a5=>S ψ h a5 [.box l [i,(.slice Jh 0 0)],.box k [(.slice Jh 0 0),(.slice Jh 0 0)],.it oL [i] xs]/\Zlm y7 xs y8=Jg a,?_,?_⟩
  .exact wX
  .rintro _ y8 a5 ⟨C,N⟩;exact wX
 .refine lw12 N (λy9 f e=>([.box l [e,(.slice Jh 0 0)],.box k [(.slice Jh 0 0),(.slice Jh 0 0)],.it oL [e] f],y9,f)) λy9 ae f e ao C N O=>?_;apply brQ N<;>intro N
  .exact wX
  .have C:=C.nilO (E:=Zg);refine lw12 N (λu o a2=>([.box l [e,a2],.box k [(.slice Jh 0 0),(.slice Jh 0 0)],.it oL [e] f,.it (El.ow Zg) [a2] o],u,o)) λu af o a2 ap C N O=>?_;apply brQ N<;>intro N
   .refine lw12 N (λw s a3=>([.box l [e,a3],.box k [(.slice Jh 0 0),(.slice Jh 0 0)],.it oL [e] f,.it (El.ow Zg) [a3] s],w,s)) λw ag s a3 aq C N O=>?_;apply brQ N<;>intro N
    .refine lw12 N (λx g j=>([.box l [e,j],.box k [(.slice Jh 0 0),(.slice Jh 0 0)],.it oL [e] f,.it (El.ow Zg) [j] g],x,g)) λx ah g j ac C N O=>?_;apply brQ N<;>intro N
     .refine ⟨λa6 a4=>S ψ h a4 [.box l [e,j],.box k [(.slice Jh 0 0),(.slice Jh 0 0)],.it oL [e] f,.it (El.ow Zg) [j] g]/\ZcM y u w x g a6=Jg ac,?_,?_⟩
      .exact wX
      .rintro _ a6 a4 ⟨C,N⟩;apply brQ N<;>intro N
       .refine bV C 0 1 ?_;obtain ⟨ar,a8,N⟩:=obind N;refine ZcA C 3 rfl (λ_=>⟨[.int .i64 u],[.int .i64 (Y.wrap ((Y.wrap ((Y.wrap (3*(y.length:Int)))+(Y.wrap (w*(y.length:Int)))))+x))],[],[],rfl,rfl,⟨rfl,rfl⟩,⟨rfl,rfl⟩⟩) rfl rfl a8 λau ai C=>?_;exact wX
       .exact wX
     .exact wX
    .exact wX
   .exact wX
omit hψ in
instance k89:Kn 310 (type_of% @ZuW):=⟨@ZuW⟩
theorem Zug {a0 v0 classe1 r} (N:Ziz a0 classe1=Jg r) (a:sc h eL v0 a0):CallsH P 258 #[v0,.bool classe1] h (λv e=>∃w0 w1,v=.tuple #[.agg #[w0,w1],.int .i64 r.2]/\S ψ h e [.it oL [w0] r.1.Colors,.it (El.ow Zg) [w1] r.1.Edges]):=by
 refine zO Tryz.func258 λC=>?_;exact wX
omit hψ in
instance k90:Kn 258 (type_of% @Zug):=⟨@Zug⟩
theorem ZAq {y p0 l r} (N:Zl0 y=Jg r) (o:CellsC (hcell h) p0 [.int .i64 y.Points,l]) (i:sc h eL l y.Blocks):CallsH P 259 #[.pointer (Jg p0)] h (λv h'=>∃w0 w1,v=.tuple #[.agg #[w0,w1],.int .i64 r.2]/\S ψ h h' [.it oL [w0] r.1.Colors,.it (El.ow Zg) [w1] r.1.Edges]):=by
 refine zT [[6,36],[10,42],[14,48],[17,54]] Tryz.func259 λC=>?_;refine new_S C λb2 ag C=>?_;refine lsA ?_;refine vL i C.le ?_;apply brQ N<;>intro N
 .exact wX
 .refine new_S C λb5 ah C=>?_;(iterate 2 refine boxA λai C=>?_);have C:=C.nilO (E:=eI);refine lw12 N (λy6 xs u=>([.box b5 [u,(.slice Jh 0 0)],.box b2 [(.slice Jh 0 0),(.slice Jh 0 0)],.it oL [u] xs],y6,xs)) λy6 aj xs u a C N O=>?_;apply brQ N<;>intro N
  .exact wX
  .refine lw12 N (λy7 e g=>([.box b5 [g,(.slice Jh 0 0)],.box b2 [(.slice Jh 0 0),(.slice Jh 0 0)],.it oL [g] e],y7,e)) λy7 aa e g ak C N O=>?_;refine kV o C.le 1 ?_;refine vL i C.le ?_;apply brQ N<;>intro N
   .exact wX
   .have C:=C.nilO (E:=Zg);refine lw12 N (λy8 j w=>([.box b5 [g,w],.box b2 [(.slice Jh 0 0),(.slice Jh 0 0)],.it oL [g] e,.it (El.ow Zg) [w] j],y8,j)) λy8 ab j w al C N O=>?_;apply brQ N<;>intro N
    .refine lw12 N (λy9 k x=>([.box b5 [g,x],.box b2 [(.slice Jh 0 0),(.slice Jh 0 0)],.it oL [g] e,.it (El.ow Zg) [x] k],y9,k)) λy9 ac k x am C N O=>?_;refine kV o C.le 1 ?_;refine vL i C.le ?_;apply brQ N<;>intro N
     .refine kV o C.le 1 ?_;refine ixV i C.le N λao ap f N=>?_;refine cm0 N C (λs hx=>ZpD s hx slA) λaq ae C N=>⟨_,rfl,?_⟩;apply brQ N<;>intro N
      .refine bV C 0 1 ?_;obtain ⟨ar,a6,N⟩:=obind N;refine ZcA C 3 rfl (λ_=>⟨[.int .i64 y8],[.int .i64 (Y.wrap (y.Points+y9))],[],[],rfl,rfl,⟨rfl,rfl⟩,⟨rfl,rfl⟩⟩) rfl rfl a6 λau af C=>?_;exact wX
      .exact wX
     .exact wX
    .exact wX
omit hψ in
instance k91:Kn 259 (type_of% @ZAq):=⟨@ZAq⟩
theorem ZDw {e f a a1 v1 g i r} (N:ZlA e a1 g=Jg r) (k:CellsC (hcell h) f [.int .i64 e.Prime,.int .i64 e.Degree,a]) (j:sc h eI a e.Poly) (l:sc h eI v1 a1) (o:sc h eI i g):zL 344 #[.pointer (Jg f),v1,i] h ψ eI r:=by
 refine zS hψ ⟨an [[3,48]],[],[],[(7,⟨[],.fin (rgs [(2,10),(0,2),(12,2)]),Jj⟩)]⟩ Tryz.func344 λC=>?_;exact wX
omit hψ in
instance k92:Kn 344 (type_of% @ZDw):=⟨@ZDw⟩
theorem ZKG {a g e f r} (N:Zj3 a=Jg r) (k:CellsC (hcell h) g [.int .i64 a.Field.Prime,.int .i64 a.Field.Degree,e,f]) (i:sc h eI e a.Field.Poly) (j:sc h eL f a.Rows):zL 311 #[.pointer (Jg g)] h ψ eL r:=by
 refine zS hψ ⟨an [[4,19,30],[8,37,42],[13,49,54],[16,49,60]],[],[],[(10,⟨[],.fin (rgs [(1,13),(0,1),(14,2)]),Jj⟩),(18,⟨[],.fin (rgs [(1,13),(0,1),(14,2)]),Jj⟩)]⟩ Tryz.func311 λC=>?_;exact wX
end
end Go.Proofs.YtcneolcmjjlmnaaGreatDoor
